/- The reference: the calendar, day by day; the times of a day. -/
import Derived.Test.YtjmjfjhiggiglaaGreatDoorRa
namespace Go.Proofs.YtjmjfjhiggiglaaGreatDoor
open Go Go.B
set_option linter.unusedSimpArgs false
set_option linter.unusedVariables false
set_option linter.unusedSectionVars false
set_option maxRecDepth 20000

theorem rDay_fn (t : Int) : curfewref08_Day_R t (ofD t) := by
  unfold curfewref08_Day_R ofD
  by_cases h0 : t < 0
  · exact br_yes (yes_of h0) (by omega)
  · refine br_no (no_of h0) ?_
    by_cases h1 : t > 253402300799
    · exact br_yes (yes_of h1) (by omega)
    · refine br_no (no_of h1) ?_
      rw [Int.tdiv_eq_ediv_of_nonneg (by omega), wi (by omega) (by omega)]
      omega

theorem rLeap_fn {y : Int} (h : 0 ≤ y) : curfewref04_Leap_R y (Cal.leapB y) := by
  unfold curfewref04_Leap_R
  rw [Int.tmod_eq_emod_of_nonneg h, Int.tmod_eq_emod_of_nonneg h, Int.tmod_eq_emod_of_nonneg h]
  unfold Cal.leapB Cal.lp
  by_cases h1 : y % 4 = 0
  · refine br_yes (by simpa using h1) ?_
    by_cases h2 : y % 100 = 0
    · refine br_no (by simpa using h2) ?_
      by_cases h3 : y % 400 = 0 <;> simp [h1, h2, h3]
    · refine br_yes (by simpa using h2) ?_
      simp [h1, h2]
  · refine br_no (by simpa using h1) ?_
    have h3 : y % 400 ≠ 0 := by omega
    simp [h1, h3]

theorem leapB_lp (y : Int) : Cal.lp y = if Cal.leapB y then 1 else 0 := by
  cases h : Cal.leapB y
  · exact Cal.leapB_false h
  · exact Cal.leapB_true h

theorem ryear_fn {y : Int} (h : 0 ≤ y) : curfewref04_year_R y (365 + Cal.lp y) := by
  refine ⟨_, rLeap_fn h, ?_⟩
  rw [leapB_lp]
  cases Cal.leapB y
  · exact br_no rfl rfl
  · exact br_yes rfl rfl

theorem long_tab12 (y : Int) (k : Nat) (h : k < 12) (hl : ¬ ((k : Int) + 1 = 2 ∧ Cal.leapB y = true)) : List.getD ([31, 28, 31, 30, 31, 30, 31, 31, 30, 31, 30, 31] : List Int) (k * 1) 0 = Cal.long y ((k : Int) + 1) := by
  have l0 : Cal.leapB y = false → Cal.lp y = 0 := fun h => Cal.leapB_false h
  match k, h with
  | 1, _ =>
    have : Cal.leapB y = false := by cases hb : Cal.leapB y; rfl; exact absurd ⟨rfl, hb⟩ hl
    simp [Cal.long, l0 this]
  | 0, _ | 2, _ | 3, _ | 4, _ | 5, _ | 6, _ | 7, _ | 8, _ | 9, _ | 10, _ | 11, _ => simp [Cal.long]

theorem rLong_fn {y m : Int} (h : 0 ≤ y) : curfewref04_Long_R y m (Cal.long y m) := by
  by_cases h1 : m < 1
  · exact br_yes (yes_of h1) (by rw [long_out (by omega)])
  · refine br_no (no_of h1) ?_
    by_cases h2 : m > 12
    · exact br_yes (yes_of h2) (by rw [long_out (by omega)])
    · refine br_no (no_of h2) ?_
      obtain ⟨k, rfl⟩ : ∃ k : Nat, m = (k : Int) + 1 := ⟨(m - 1).toNat, by omega⟩
      have ew : IntKind.wrap .i64 ((k : Int) + 1 - 1) = k := by rw [wi (by omega) (by omega)]; omega
      have rest : ¬ ((k : Int) + 1 = 2 ∧ Cal.leapB y = true) → req (((decide (0 ≤ (IntKind.wrap .i64 ((k : Int) + 1 - 1)))) && (decide ((IntKind.wrap .i64 ((k : Int) + 1 - 1)) < 12))) && (Nat.blt ((Int.toNat (IntKind.wrap .i64 ((k : Int) + 1 - 1))) * 1) 12)) ((List.getD ([31, 28, 31, 30, 31, 30, 31, 31, 30, 31, 30, 31] : List Int) ((Int.toNat (IntKind.wrap .i64 ((k : Int) + 1 - 1))) * 1) 0) = Cal.long y ((k : Int) + 1)) := by
        intro hl
        rw [ew]
        refine ⟨?_, long_tab12 y k (by omega) hl⟩
        simp only [Int.toNat_natCast, Bool.and_eq_true, Nat.blt_eq, decide_eq_true_eq]; omega
      by_cases h3 : (k : Int) + 1 = 2
      · refine br_yes (by simpa using h3) ⟨_, rLeap_fn h, ?_⟩
        cases hb : Cal.leapB y
        · exact br_no rfl (rest (by rw [hb]; simp))
        · refine br_yes rfl ?_
          rw [h3]; simp [Cal.long, Cal.leapB_true hb]
      · exact br_no (by simpa using h3) (rest (fun h => h3 h.1))

theorem rAt_years {Y M D : Int} (h : Cal.okd Y M D = true) : ∀ (j : Nat) (y : Int), 1970 ≤ y → y + j = Y → ∃ k, curfewref04_At_l0 k (y, Cal.num Y M D + 719528 - Cal.dby y) (Y, Cal.num Y M D + 719528 - Cal.dby Y) := by
  obtain ⟨q1, q2⟩ := Cal.num_year h
  obtain ⟨Y1, Y2, _⟩ := Cal.okd_iff.mp h
  have nb := Cal.num_bd h
  have l0 := Cal.lp_01 Y
  intro j
  induction j with
  | zero =>
    intro y h0 e
    have e : y = Y := by omega
    subst e
    exact ⟨1, _, ryear_fn (by omega), br_no (no_of (by omega)) rfl⟩
  | succ j ih =>
    intro y h0 e
    obtain ⟨k, hk⟩ := ih (y + 1) (by omega) (by omega)
    have s := Cal.dby_succ y
    have lt := Cal.dby_lt y Y (by omega)
    have l := Cal.lp_01 y
    have b0 := Cal.dby_mono 0 y (by omega)
    have b00 : Cal.dby 0 = 0 := by decide
    refine ⟨k + 1, _, ryear_fn (by omega), br_yes (yes_of (by omega)) ⟨_, ryear_fn (by omega), ?_⟩⟩
    rw [wi (x := y + 1) (by omega) (by omega), wi (by omega) (by omega)]
    rw [s] at hk
    rw [show Cal.num Y M D + 719528 - Cal.dby y - (365 + Cal.lp y) = Cal.num Y M D + 719528 - (Cal.dby y + 365 + Cal.lp y) from by omega]
    exact hk

theorem cum_mono (y m : Int) (h1 : 1 ≤ m) (h2 : m ≤ 12) : Cal.cum y m ≤ Cal.cum y (m + 1) := by rw [Cal.cum_succ y m h1 h2]; have := Cal.long_bd y m; omega

theorem rAt_months {Y M D : Int} (h : Cal.okd Y M D = true) : ∀ (j : Nat) (m : Int), 1 ≤ m → m + j = M → ∃ k, curfewref04_At_l1 k (Y, m, Cal.cum Y M + D - 1 - Cal.cum Y m) (M, D - 1) := by
  obtain ⟨Y1, Y2, d1, d2⟩ := Cal.okd_iff.mp h
  obtain ⟨M1, M2⟩ := Cal.okd_month h
  have cM := Cal.cum_bd Y M
  have lM := Cal.long_bd Y M
  intro j
  induction j with
  | zero =>
    intro m h0 e
    have e : m = M := by omega
    subst e
    refine ⟨1, _, rLong_fn (by omega), br_no (no_of (by omega)) ?_⟩
    rw [show Cal.cum Y m + D - 1 - Cal.cum Y m = D - 1 from by omega]
  | succ j ih =>
    intro m h0 e
    obtain ⟨k, hk⟩ := ih (m + 1) (by omega) (by omega)
    have s := Cal.cum_succ Y m h0 (by omega)
    have lt := Cal.cum_lt Y m M h0 (by omega) (by omega)
    have cm := Cal.cum_bd Y m
    have lm := Cal.long_bd Y m
    refine ⟨k + 1, _, rLong_fn (by omega), br_yes (yes_of (by omega)) ⟨_, rLong_fn (by omega), ?_⟩⟩
    rw [wi (x := m + 1) (by omega) (by omega), wi (by omega) (by omega)]
    rw [s] at hk
    rw [show Cal.cum Y M + D - 1 - Cal.cum Y m - Cal.long Y m = Cal.cum Y M + D - 1 - (Cal.cum Y m + Cal.long Y m) from by omega]
    exact hk

theorem rAt_fn {n : Int} (h0 : 0 ≤ n) (h1 : n ≤ 2932896) : curfewref04_At_R n (Cal.dat n) := by
  obtain ⟨o1, o2⟩ := Cal.dat_ok n h0 h1
  generalize hY : (Cal.dat n).1 = Y at *
  generalize hM : (Cal.dat n).2.1 = M at *
  generalize hD : (Cal.dat n).2.2 = D at *
  have e : Cal.dat n = (Y, M, D) := by rw [← hY, ← hM, ← hD]
  obtain ⟨Y1, Y2, d1, d2⟩ := Cal.okd_iff.mp o1
  obtain ⟨M1, M2⟩ := Cal.okd_month o1
  have lM := Cal.long_bd Y M
  have k0 := rAt_years o1 (Y - 1970).toNat 1970 (by omega) (by omega)
  have k1 := rAt_months o1 (M - 1).toNat 1 (by omega) (by omega)
  have b : Cal.dby 1970 = 719528 := by decide
  rw [b, o2, show n + 719528 - 719528 = n from by omega] at k0
  rw [Cal.cum_1] at k1
  have er : n + 719528 - Cal.dby Y = Cal.cum Y M + D - 1 - 0 := by rw [← o2]; unfold Cal.num; omega
  rw [er] at k0
  refine ⟨_, k0, _, k1, ?_⟩
  rw [e, wi (by omega) (by omega), show D - 1 + 1 = D from by omega]

theorem rWeekday_fn {n : Int} (h0 : 0 ≤ n) : curfewref04_Weekday_R n ((n + 4) % 7) := by
  unfold curfewref04_Weekday_R
  rw [Int.tmod_eq_emod_of_nonneg h0, wi (by omega) (by omega), Int.tmod_eq_emod_of_nonneg (by omega)]
  omega

theorem lstB_part {p q : Nat → Bool} : ∀ {n : Nat}, (∀ j, j < n → p j = true → q j = true) → (lstB p n).length ≤ (lstB q n).length ∧ ((lstB p n).length = (lstB q n).length → ∀ j, j < n → p j = q j)
  | 0, _ => ⟨Nat.le_refl _, fun _ j h => absurd h (Nat.not_lt_zero _)⟩
  | n + 1, h => by
    obtain ⟨a, b⟩ := lstB_part (p := p) (q := q) (n := n) fun j hj => h j (by omega)
    have hn := h n (by omega)
    have split : ∀ j, j < n + 1 → j < n ∨ j = n := fun j hj => by omega
    cases hp : p n <;> cases hq : q n
    · rw [lstB_no hp, lstB_no hq]
      refine ⟨a, fun e j hj => ?_⟩
      rcases split j hj with k | rfl
      · exact b e j k
      · rw [hp, hq]
    · rw [lstB_no hp, lstB_yes hq, List.length_append]
      exact ⟨by simp; omega, fun e => by simp at e; omega⟩
    · rw [hp, hq] at hn; exact absurd (hn rfl) (by decide)
    · rw [lstB_yes hp, lstB_yes hq, List.length_append, List.length_append]
      refine ⟨by simp; omega, fun e j hj => ?_⟩
      rcases split j hj with k | rfl
      · exact b (by simpa using e) j k
      · rw [hp, hq]

theorem whole_len {k : Nat} {m : Int} (hm : U64 m) (h : okF k m = true) (hk : k < 5) {n : Nat} (hn : (bitsL (wholeL.getD k 0)).length = n) : (((bitsL m).length : Int) == (n : Int)) = (m == wholeL.getD k 0) := by
  unfold okF subB at h
  simp only [Bool.and_eq_true, beq_iff_eq] at h
  obtain ⟨_, h⟩ := h
  obtain ⟨w0, w1⟩ := whole_U64 k
  obtain ⟨m0, m1⟩ := hm
  have e64 : (2 : Nat) ^ 64 = 18446744073709551616 := by decide
  have sub : ∀ j, j < 64 → Nat.testBit m.toNat j = true → Nat.testBit (wholeL.getD k 0).toNat j = true := fun j _ hj => by
    rw [← h, Nat.testBit_and] at hj
    simp only [Bool.and_eq_true] at hj
    exact hj.2
  obtain ⟨a, b⟩ := lstB_part sub
  rw [Bool.eq_iff_iff, beq_iff_eq, beq_iff_eq]
  constructor
  · intro e
    have e2 : (lstB (Nat.testBit m.toNat) 64).length = (lstB (Nat.testBit (wholeL.getD k 0).toNat) 64).length := by
      have : (lstB (Nat.testBit (wholeL.getD k 0).toNat) 64).length = n := hn
      have e' : (lstB (Nat.testBit m.toNat) 64).length = n := by
        have : ((lstB (Nat.testBit m.toNat) 64).length : Int) = (n : Int) := e
        omega
      omega
    have same := b e2
    have : m.toNat = (wholeL.getD k 0).toNat := by
      apply Nat.eq_of_testBit_eq
      intro j
      rcases Nat.lt_or_ge j 64 with q | q
      · exact same j q
      · have hp : 2 ^ 64 ≤ 2 ^ j := Nat.pow_le_pow_right (by omega) q
        rw [Nat.testBit_lt_two_pow (by omega), Nat.testBit_lt_two_pow (by omega)]
    omega
  · intro e; rw [e, hn]

theorem rfits_fn {c : Cron} (hc : c.in) (hok : c.ok = true) {y m d n : Int} (h0 : 0 ≤ n) : curfewref08_fits_R c.mi c.ho c.da c.mo c.we y m d n (fitB c m d ((n + 4) % 7)) := by
  unfold fitB
  refine ⟨_, rHas_fn hc.2.2.2.1 m, ?_⟩
  cases hasB c.mo m
  · exact br_yes rfl rfl
  refine br_no rfl ⟨_, rHas_fn hc.2.2.1 d, _, rWeekday_fn h0, _, rHas_fn hc.2.2.2.2 _, _, rAll_fn hc.2.2.1, ?_⟩
  have hok' := hok
  unfold Cron.ok at hok'
  simp only [Bool.and_eq_true] at hok'
  have e1 := whole_len hc.2.2.1 hok'.1.1.2 (by decide) (n := 31) (by decide +kernel)
  have e2 := whole_len hc.2.2.2.2 hok'.2 (by decide) (n := 7) (by decide +kernel)
  rw [show wholeL.getD 2 0 = 4294967294 from rfl] at e1
  rw [show wholeL.getD 4 0 = 127 from rfl] at e2
  have e1 : ((((bitsL c.da).length : Nat) : Int) == 31) = (c.da == 4294967294) := e1
  have e2 : ((((bitsL c.we).length : Nat) : Int) == 7) = (c.we == 127) := e2
  cases hd : c.da == 4294967294
  · refine br_no (e1.trans hd) ⟨_, rAll_fn hc.2.2.2.2, ?_⟩
    cases hw : c.we == 127
    · refine br_no (e2.trans hw) ?_
      cases hasB c.da d
      · exact br_no rfl (by simp)
      · exact br_yes rfl (by simp)
    · refine br_yes (e2.trans hw) ?_
      cases hasB c.da d
      · exact br_no rfl (by simp)
      · exact br_yes rfl (by simp)
  · refine br_yes (e1.trans hd) ?_
    cases hasB c.da d
    · exact br_no rfl (by simp)
    · exact br_yes rfl (by simp)

theorem dat_behind {n : Int} (h0 : 0 ≤ n) (h1 : n < 2932896) : curfewref08_behind_R (Cal.dat n).1 (Cal.dat n).2.1 (Cal.dat n).2.2 (Cal.dat (n + 1)) := by
  obtain ⟨o1, o2⟩ := Cal.dat_ok n h0 (by omega)
  generalize (Cal.dat n).1 = Y at *
  generalize (Cal.dat n).2.1 = M at *
  generalize (Cal.dat n).2.2 = D at *
  obtain ⟨Y1, Y2, d1, d2⟩ := Cal.okd_iff.mp o1
  obtain ⟨M1, M2⟩ := Cal.okd_month o1
  have lM := Cal.long_bd Y M
  refine ⟨_, rLong_fn (by omega), ?_⟩
  have w1 : IntKind.wrap .i64 (D + 1) = D + 1 := wi (by omega) (by omega)
  have w2 : IntKind.wrap .i64 (M + 1) = M + 1 := wi (by omega) (by omega)
  have w3 : IntKind.wrap .i64 (Y + 1) = Y + 1 := wi (by omega) (by omega)
  rw [w1, w2, w3]
  by_cases hd : D + 1 > Cal.long Y M
  · refine br_yes (yes_of hd) ?_
    by_cases hm : M + 1 > 12
    · refine br_yes (yes_of hm) ?_
      have eM : M = 12 := by omega
      subst eM
      have s := Cal.dby_succ Y
      have s2 := Cal.cum_succ Y 12 (by omega) (by omega)
      have c13 := Cal.cum_13 Y
      have c1 := Cal.cum_1 (Y + 1)
      have lp := Cal.long_pos (Y + 1) 1 (by omega) (by omega)
      have en : Cal.num (Y + 1) 1 1 = n + 1 := by rw [← o2]; unfold Cal.num; rw [c1]; rw [show (12 : Int) + 1 = 13 from rfl] at s2; omega
      have y9 : Y + 1 ≤ 9999 := by
        rcases Int.lt_or_le Y 9999 with k | k
        · omega
        · have : Y = 9999 := by omega
          subst this
          have : Cal.num (9999 + 1) 1 1 = 2932897 := by decide
          omega
      exact (Cal.dat_of (Cal.okd_iff.mpr ⟨by omega, y9, by omega, by omega⟩) en).symm
    · refine br_no (no_of hm) ?_
      have s2 := Cal.cum_succ Y M (by omega) (by omega)
      have lp := Cal.long_pos Y (M + 1) (by omega) (by omega)
      have en : Cal.num Y (M + 1) 1 = n + 1 := by rw [← o2]; unfold Cal.num; omega
      exact (Cal.dat_of (Cal.okd_iff.mpr ⟨by omega, by omega, by omega, by omega⟩) en).symm
  · refine br_no (no_of hd) (br_no (no_of (by omega)) ?_)
    have en : Cal.num Y M (D + 1) = n + 1 := by rw [← o2]; unfold Cal.num; omega
    exact (Cal.dat_of (Cal.okd_iff.mpr ⟨by omega, by omega, by omega, by omega⟩) en).symm

theorem behind_some {y m d : Int} (h : 0 ≤ y) : ∃ z, curfewref08_behind_R y m d z := by
  by_cases h1 : (IntKind.wrap .i64 (d + 1)) > Cal.long y m
  · by_cases h2 : (IntKind.wrap .i64 (m + 1)) > 12
    · exact ⟨_, _, rLong_fn h, br_yes (yes_of h1) (br_yes (yes_of h2) rfl)⟩
    · exact ⟨_, _, rLong_fn h, br_yes (yes_of h1) (br_no (no_of h2) rfl)⟩
  · by_cases h2 : m > 12
    · exact ⟨_, _, rLong_fn h, br_no (no_of h1) (br_yes (yes_of h2) rfl)⟩
    · exact ⟨_, _, rLong_fn h, br_no (no_of h1) (br_no (no_of h2) rfl)⟩

theorem rOn_row {L M out : List Int} {c0 c1 c2 c3 c4 n h x1 x2 : Int} (n0 : 0 ≤ n) (n1 : n ≤ 2932896) (h0 : 0 ≤ h) (h1 : h ≤ 63) (hM : ∀ x ∈ M, 0 ≤ x ∧ x ≤ 63) (hl : M.length ≤ 64) (ho : out.length ≤ 100000) :
    ∃ k, curfewref08_On_l0 k (L, M, out, c0, c1, c2, c3, c4, n, h, x1, x2, (M.length : Int), 0) (out ++ M.map (tm n h)) := by
  have key := up_ind (P := fun i => ∃ k, curfewref08_On_l0 k (L, M, out ++ (M.take i).map (tm n h), c0, c1, c2, c3, c4, n, h, x1, x2, (M.length : Int), (i : Int)) (out ++ M.map (tm n h))) (n := M.length)
    ⟨1, br_no (ilt_no (by omega)) (by rw [List.take_length])⟩ (fun i hi ⟨k, hk⟩ => by
      obtain ⟨m0, m1⟩ := hM _ (getD_mem hi)
      refine ⟨k + 1, br_yes (yes_of (by omega)) ⟨ix_ok hi, ⟨blt_ok hi, ?_⟩⟩⟩
      show req (Nat.ble ((List.length ((out ++ (M.take i).map (tm n h)) ++ [_])) * 9) 140737488355328) (curfewref08_On_l0 k (L, M, (out ++ (M.take i).map (tm n h)) ++ [IntKind.wrap .i64 ((IntKind.wrap .i64 ((IntKind.wrap .i64 (n * 86400)) + (IntKind.wrap .i64 (h * 3600)))) + (IntKind.wrap .i64 ((M.getD i 0) * 60)))], c0, c1, c2, c3, c4, n, h, x1, x2, (M.length : Int), IntKind.wrap .i64 ((i : Int) + 1)) _)
      rw [tm_wrap n0 n1 h0 h1 m0 m1, wi_succ (n := i) (by omega)]
      refine ⟨nl_ok (by simp; omega), ?_⟩
      have e0 : M.take (i + 1) = M.take i ++ [M.getD i 0] := by
        rw [List.take_add_one, List.getD_eq_getElem?_getD, List.getElem?_eq_getElem hi]; rfl
      rw [e0, List.map_append, ← List.append_assoc] at hk
      exact hk) 0 (by omega)
  simpa using key

theorem onL_take (c : Cron) (n : Int) (L : List Int) : (L.flatMap fun h => (bitsL c.mi).map (tm n h)).length ≤ L.length * 64 := by
  induction L with
  | nil => simp
  | cons x L ih =>
    have := bitsL_len c.mi
    rw [List.flatMap_cons, List.length_append, List.length_map, List.length_cons]
    omega

theorem rOn_fn {c : Cron} (hc : c.in) {n : Int} (n0 : 0 ≤ n) (n1 : n ≤ 2932896) : curfewref08_On_R c.mi c.ho c.da c.mo c.we n (onL c n) := by
  refine ⟨_, rAll_fn hc.2.1, ?_⟩
  have hl := bitsL_len c.ho
  generalize hL : bitsL c.ho = L at *
  have hm : ∀ x ∈ L, 0 ≤ x ∧ x ≤ 63 := fun x hx => bitsL_mem (by rw [hL]; exact hx)
  have key := up_ind (P := fun i => ∃ k, curfewref08_On_l1 k (L, (L.take i).flatMap (fun h => (bitsL c.mi).map (tm n h)), c.mi, c.ho, c.da, c.mo, c.we, n, (L.length : Int), (i : Int)) (onL c n)) (n := L.length)
    ⟨1, br_no (ilt_no (by omega)) (by rw [List.take_length]; unfold onL; rw [hL])⟩ (fun i hi ⟨k, hk⟩ => by
      obtain ⟨h0, h1⟩ := hm _ (getD_mem hi)
      have ol := onL_take c n (L.take i)
      have tl : (L.take i).length ≤ 64 := by simp; omega
      refine ⟨k + 1, br_yes (yes_of (by omega)) ⟨ix_ok hi, ⟨blt_ok hi, _, rAll_fn hc.1, _, rOn_row n0 n1 h0 h1 (fun x hx => bitsL_mem hx) (bitsL_len _) (by omega), ?_⟩⟩⟩
      show curfewref08_On_l1 k (L, (L.take i).flatMap (fun h => (bitsL c.mi).map (tm n h)) ++ (bitsL c.mi).map (tm n (L.getD i 0)), c.mi, c.ho, c.da, c.mo, c.we, n, (L.length : Int), IntKind.wrap .i64 ((i : Int) + 1)) _
      rw [wi_succ (n := i) (by omega)]
      have e0 : L.take (i + 1) = L.take i ++ [L.getD i 0] := by
        rw [List.take_add_one, List.getD_eq_getElem?_getD, List.getElem?_eq_getElem hi]; rfl
      rw [e0, List.flatMap_append] at hk
      simpa using hk) 0 (by omega)
  exact ⟨_, key, rfl⟩
end Go.Proofs.YtjmjfjhiggiglaaGreatDoor
