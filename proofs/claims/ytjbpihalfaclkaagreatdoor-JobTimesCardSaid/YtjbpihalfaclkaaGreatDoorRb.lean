import Derived.Test.YtjbpihalfaclkaaGreatDoorMn
import Derived.Test.YtjbpihalfaclkaaGreatDoorRbc
import Derived.Test.YtjbpihalfaclkaaGreatDoorRbw
/- The reference: days that fit, one behind the other. -/
namespace Go.Proofs.YtjbpihalfaclkaaGreatDoor
open Go Go.B
set_option linter.unusedSimpArgs false
set_option linter.unusedVariables false
set_option linter.unusedSectionVars false
set_option maxRecDepth 20000

theorem rfits_fn {c : Cron} (hc : c.in) (hok : c.ok = true) {y m d n : Int} (h0 : 0 ≤ n) : curfewref08_fits_R c.mi c.ho c.da c.mo c.we y m d n (fitB c m d ((n + 4) % 7)) := by
  unfold fitB
  refine ⟨_, rHas_fn hc.2.2.2.1 m, ?_⟩
  cases hasB c.mo m
  · exact br_yes rfl rfl
  refine br_no rfl ⟨_, rHas_fn hc.2.2.1 d, _, rWeekday_fn h0, _, rHas_fn hc.2.2.2.2 _, _, rAll_fn hc.2.2.1, ?_⟩
  have hok' := hok
  unfold Cron.ok at hok'
  simp only [Bool.and_eq_true] at hok'
  have e1 := whole_len hc.2.2.1 hok'.1.1.2 (by decide) (n := 31) (by decide +kernel)
  have e2 := whole_len hc.2.2.2.2 hok'.2 (by decide) (n := 7) (by decide +kernel)
  rw [show wholeL.getD 2 0 = 4294967294 from rfl] at e1
  rw [show wholeL.getD 4 0 = 127 from rfl] at e2
  have e1 : ((((bitsL c.da).length : Nat) : Int) == 31) = (c.da == 4294967294) := e1
  have e2 : ((((bitsL c.we).length : Nat) : Int) == 7) = (c.we == 127) := e2
  cases hd : c.da == 4294967294
  · refine br_no (e1.trans hd) ⟨_, rAll_fn hc.2.2.2.2, ?_⟩
    cases hw : c.we == 127
    · refine br_no (e2.trans hw) ?_
      cases hasB c.da d
      · exact br_no rfl (by simp)
      · exact br_yes rfl (by simp)
    · refine br_yes (e2.trans hw) ?_
      cases hasB c.da d
      · exact br_no rfl (by simp)
      · exact br_yes rfl (by simp)
  · refine br_yes (e1.trans hd) ?_
    cases hasB c.da d
    · exact br_no rfl (by simp)
    · exact br_yes rfl (by simp)

theorem dat_behind {n : Int} (h0 : 0 ≤ n) (h1 : n < 2932896) : curfewref08_behind_R (Cal.dat n).1 (Cal.dat n).2.1 (Cal.dat n).2.2 (Cal.dat (n + 1)) := by
  obtain ⟨o1, o2⟩ := Cal.dat_ok n h0 (by omega)
  generalize (Cal.dat n).1 = Y at *
  generalize (Cal.dat n).2.1 = M at *
  generalize (Cal.dat n).2.2 = D at *
  obtain ⟨Y1, Y2, d1, d2⟩ := Cal.okd_iff.mp o1
  obtain ⟨M1, M2⟩ := Cal.okd_month o1
  have lM := Cal.long_bd Y M
  refine ⟨_, rLong_fn (by omega), ?_⟩
  have w1 : IntKind.wrap .i64 (D + 1) = D + 1 := wi (by omega) (by omega)
  have w2 : IntKind.wrap .i64 (M + 1) = M + 1 := wi (by omega) (by omega)
  have w3 : IntKind.wrap .i64 (Y + 1) = Y + 1 := wi (by omega) (by omega)
  rw [w1, w2, w3]
  by_cases hd : D + 1 > Cal.long Y M
  · refine br_yes (yes_of hd) ?_
    by_cases hm : M + 1 > 12
    · refine br_yes (yes_of hm) ?_
      have eM : M = 12 := by omega
      subst eM
      have s := Cal.dby_succ Y
      have s2 := Cal.cum_succ Y 12 (by omega) (by omega)
      have c13 := Cal.cum_13 Y
      have c1 := Cal.cum_1 (Y + 1)
      have lp := Cal.long_pos (Y + 1) 1 (by omega) (by omega)
      have en : Cal.num (Y + 1) 1 1 = n + 1 := by rw [← o2]; unfold Cal.num; rw [c1]; rw [show (12 : Int) + 1 = 13 from rfl] at s2; omega
      have y9 : Y + 1 ≤ 9999 := by
        rcases Int.lt_or_le Y 9999 with k | k
        · omega
        · have : Y = 9999 := by omega
          subst this
          have : Cal.num (9999 + 1) 1 1 = 2932897 := by decide
          omega
      exact (Cal.dat_of (Cal.okd_iff.mpr ⟨by omega, y9, by omega, by omega⟩) en).symm
    · refine br_no (no_of hm) ?_
      have s2 := Cal.cum_succ Y M (by omega) (by omega)
      have lp := Cal.long_pos Y (M + 1) (by omega) (by omega)
      have en : Cal.num Y (M + 1) 1 = n + 1 := by rw [← o2]; unfold Cal.num; omega
      exact (Cal.dat_of (Cal.okd_iff.mpr ⟨by omega, by omega, by omega, by omega⟩) en).symm
  · refine br_no (no_of hd) (br_no (no_of (by omega)) ?_)
    have en : Cal.num Y M (D + 1) = n + 1 := by rw [← o2]; unfold Cal.num; omega
    exact (Cal.dat_of (Cal.okd_iff.mpr ⟨by omega, by omega, by omega, by omega⟩) en).symm

end Go.Proofs.YtjbpihalfaclkaaGreatDoor
/- The reference: the calendar, day by day; the times of a day. -/
namespace Go.Proofs.YtjbpihalfaclkaaGreatDoor
open Go Go.B
set_option linter.unusedSimpArgs false
set_option linter.unusedVariables false
set_option linter.unusedSectionVars false
set_option maxRecDepth 20000

theorem rDay_fn (t : Int) : curfewref08_Day_R t (ofD t) := by
  unfold curfewref08_Day_R ofD
  by_cases h0 : t < 0
  · exact br_yes (yes_of h0) (by omega)
  · refine br_no (no_of h0) ?_
    by_cases h1 : t > 253402300799
    · exact br_yes (yes_of h1) (by omega)
    · refine br_no (no_of h1) ?_
      rw [Int.tdiv_eq_ediv_of_nonneg (by omega), wi (by omega) (by omega)]
      omega

theorem rOn_row {L M out : List Int} {c0 c1 c2 c3 c4 n h x1 x2 : Int} (n0 : 0 ≤ n) (n1 : n ≤ 2932896) (h0 : 0 ≤ h) (h1 : h ≤ 63) (hM : ∀ x ∈ M, 0 ≤ x ∧ x ≤ 63) (hl : M.length ≤ 64) (ho : out.length ≤ 100000) :
    ∃ k, curfewref08_On_l0 k (L, M, out, c0, c1, c2, c3, c4, n, h, x1, x2, (M.length : Int), 0) (out ++ M.map (tm n h)) := by
  have key := up_ind (P := fun i => ∃ k, curfewref08_On_l0 k (L, M, out ++ (M.take i).map (tm n h), c0, c1, c2, c3, c4, n, h, x1, x2, (M.length : Int), (i : Int)) (out ++ M.map (tm n h))) (n := M.length)
    ⟨1, br_no (ilt_no (by omega)) (by rw [List.take_length])⟩ (fun i hi ⟨k, hk⟩ => by
      obtain ⟨m0, m1⟩ := hM _ (getD_mem hi)
      refine ⟨k + 1, br_yes (yes_of (by omega)) ⟨ix_ok hi, ⟨blt_ok hi, ?_⟩⟩⟩
      show req (Nat.ble ((List.length ((out ++ (M.take i).map (tm n h)) ++ [_])) * 9) 140737488355328) (curfewref08_On_l0 k (L, M, (out ++ (M.take i).map (tm n h)) ++ [IntKind.wrap .i64 ((IntKind.wrap .i64 ((IntKind.wrap .i64 (n * 86400)) + (IntKind.wrap .i64 (h * 3600)))) + (IntKind.wrap .i64 ((M.getD i 0) * 60)))], c0, c1, c2, c3, c4, n, h, x1, x2, (M.length : Int), IntKind.wrap .i64 ((i : Int) + 1)) _)
      rw [tm_wrap n0 n1 h0 h1 m0 m1, wi_succ (n := i) (by omega)]
      refine ⟨nl_ok (by simp; omega), ?_⟩
      have e0 : M.take (i + 1) = M.take i ++ [M.getD i 0] := by
        rw [List.take_add_one, List.getD_eq_getElem?_getD, List.getElem?_eq_getElem hi]; rfl
      rw [e0, List.map_append, ← List.append_assoc] at hk
      exact hk) 0 (by omega)
  simpa using key

theorem onL_take (c : Cron) (n : Int) (L : List Int) : (L.flatMap fun h => (bitsL c.mi).map (tm n h)).length ≤ L.length * 64 := by
  induction L with
  | nil => simp
  | cons x L ih =>
    have := bitsL_len c.mi
    rw [List.flatMap_cons, List.length_append, List.length_map, List.length_cons]
    omega

theorem rOn_fn {c : Cron} (hc : c.in) {n : Int} (n0 : 0 ≤ n) (n1 : n ≤ 2932896) : curfewref08_On_R c.mi c.ho c.da c.mo c.we n (onL c n) := by
  refine ⟨_, rAll_fn hc.2.1, ?_⟩
  have hl := bitsL_len c.ho
  generalize hL : bitsL c.ho = L at *
  have hm : ∀ x ∈ L, 0 ≤ x ∧ x ≤ 63 := fun x hx => bitsL_mem (by rw [hL]; exact hx)
  have key := up_ind (P := fun i => ∃ k, curfewref08_On_l1 k (L, (L.take i).flatMap (fun h => (bitsL c.mi).map (tm n h)), c.mi, c.ho, c.da, c.mo, c.we, n, (L.length : Int), (i : Int)) (onL c n)) (n := L.length)
    ⟨1, br_no (ilt_no (by omega)) (by rw [List.take_length]; unfold onL; rw [hL])⟩ (fun i hi ⟨k, hk⟩ => by
      obtain ⟨h0, h1⟩ := hm _ (getD_mem hi)
      have ol := onL_take c n (L.take i)
      have tl : (L.take i).length ≤ 64 := by simp; omega
      refine ⟨k + 1, br_yes (yes_of (by omega)) ⟨ix_ok hi, ⟨blt_ok hi, _, rAll_fn hc.1, _, rOn_row n0 n1 h0 h1 (fun x hx => bitsL_mem hx) (bitsL_len _) (by omega), ?_⟩⟩⟩
      show curfewref08_On_l1 k (L, (L.take i).flatMap (fun h => (bitsL c.mi).map (tm n h)) ++ (bitsL c.mi).map (tm n (L.getD i 0)), c.mi, c.ho, c.da, c.mo, c.we, n, (L.length : Int), IntKind.wrap .i64 ((i : Int) + 1)) _
      rw [wi_succ (n := i) (by omega)]
      have e0 : L.take (i + 1) = L.take i ++ [L.getD i 0] := by
        rw [List.take_add_one, List.getD_eq_getElem?_getD, List.getElem?_eq_getElem hi]; rfl
      rw [e0, List.flatMap_append] at hk
      simpa using hk) 0 (by omega)
  exact ⟨_, key, rfl⟩
end Go.Proofs.YtjbpihalfaclkaaGreatDoor
