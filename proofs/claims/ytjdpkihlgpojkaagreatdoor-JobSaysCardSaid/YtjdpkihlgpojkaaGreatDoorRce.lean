import Derived.Test.YtjdpkihlgpojkaaGreatDoorMn
import Derived.Test.YtjdpkihlgpojkaaGreatDoorRbc
import Derived.Test.YtjdpkihlgpojkaaGreatDoorRbw
/- The reference: days that fit, one behind the other. -/
namespace Go.Proofs.YtjdpkihlgpojkaaGreatDoor
open Go Go.B
set_option linter.unusedSimpArgs false
set_option linter.unusedVariables false
set_option linter.unusedSectionVars false
set_option maxRecDepth 20000

theorem rfits_fn {c : Cron} (hc : c.in) (hok : c.ok = true) {y m d n : Int} (h0 : 0 ≤ n) : curfewref08_fits_R c.mi c.ho c.da c.mo c.we y m d n (fitB c m d ((n + 4) % 7)) := by
  unfold fitB
  refine ⟨_, rHas_fn hc.2.2.2.1 m, ?_⟩
  cases hasB c.mo m
  · exact br_yes rfl rfl
  refine br_no rfl ⟨_, rHas_fn hc.2.2.1 d, _, rWeekday_fn h0, _, rHas_fn hc.2.2.2.2 _, _, rAll_fn hc.2.2.1, ?_⟩
  have hok' := hok
  unfold Cron.ok at hok'
  simp only [Bool.and_eq_true] at hok'
  have e1 := whole_len hc.2.2.1 hok'.1.1.2 (by decide) (n := 31) (by decide +kernel)
  have e2 := whole_len hc.2.2.2.2 hok'.2 (by decide) (n := 7) (by decide +kernel)
  rw [show wholeL.getD 2 0 = 4294967294 from rfl] at e1
  rw [show wholeL.getD 4 0 = 127 from rfl] at e2
  have e1 : ((((bitsL c.da).length : Nat) : Int) == 31) = (c.da == 4294967294) := e1
  have e2 : ((((bitsL c.we).length : Nat) : Int) == 7) = (c.we == 127) := e2
  cases hd : c.da == 4294967294
  · refine br_no (e1.trans hd) ⟨_, rAll_fn hc.2.2.2.2, ?_⟩
    cases hw : c.we == 127
    · refine br_no (e2.trans hw) ?_
      cases hasB c.da d
      · exact br_no rfl (by simp)
      · exact br_yes rfl (by simp)
    · refine br_yes (e2.trans hw) ?_
      cases hasB c.da d
      · exact br_no rfl (by simp)
      · exact br_yes rfl (by simp)
  · refine br_yes (e1.trans hd) ?_
    cases hasB c.da d
    · exact br_no rfl (by simp)
    · exact br_yes rfl (by simp)

theorem dat_behind {n : Int} (h0 : 0 ≤ n) (h1 : n < 2932896) : curfewref08_behind_R (Cal.dat n).1 (Cal.dat n).2.1 (Cal.dat n).2.2 (Cal.dat (n + 1)) := by
  obtain ⟨o1, o2⟩ := Cal.dat_ok n h0 (by omega)
  generalize (Cal.dat n).1 = Y at *
  generalize (Cal.dat n).2.1 = M at *
  generalize (Cal.dat n).2.2 = D at *
  obtain ⟨Y1, Y2, d1, d2⟩ := Cal.okd_iff.mp o1
  obtain ⟨M1, M2⟩ := Cal.okd_month o1
  have lM := Cal.long_bd Y M
  refine ⟨_, rLong_fn (by omega), ?_⟩
  have w1 : IntKind.wrap .i64 (D + 1) = D + 1 := wi (by omega) (by omega)
  have w2 : IntKind.wrap .i64 (M + 1) = M + 1 := wi (by omega) (by omega)
  have w3 : IntKind.wrap .i64 (Y + 1) = Y + 1 := wi (by omega) (by omega)
  rw [w1, w2, w3]
  by_cases hd : D + 1 > Cal.long Y M
  · refine br_yes (yes_of hd) ?_
    by_cases hm : M + 1 > 12
    · refine br_yes (yes_of hm) ?_
      have eM : M = 12 := by omega
      subst eM
      have s := Cal.dby_succ Y
      have s2 := Cal.cum_succ Y 12 (by omega) (by omega)
      have c13 := Cal.cum_13 Y
      have c1 := Cal.cum_1 (Y + 1)
      have lp := Cal.long_pos (Y + 1) 1 (by omega) (by omega)
      have en : Cal.num (Y + 1) 1 1 = n + 1 := by rw [← o2]; unfold Cal.num; rw [c1]; rw [show (12 : Int) + 1 = 13 from rfl] at s2; omega
      have y9 : Y + 1 ≤ 9999 := by
        rcases Int.lt_or_le Y 9999 with k | k
        · omega
        · have : Y = 9999 := by omega
          subst this
          have : Cal.num (9999 + 1) 1 1 = 2932897 := by decide
          omega
      exact (Cal.dat_of (Cal.okd_iff.mpr ⟨by omega, y9, by omega, by omega⟩) en).symm
    · refine br_no (no_of hm) ?_
      have s2 := Cal.cum_succ Y M (by omega) (by omega)
      have lp := Cal.long_pos Y (M + 1) (by omega) (by omega)
      have en : Cal.num Y (M + 1) 1 = n + 1 := by rw [← o2]; unfold Cal.num; omega
      exact (Cal.dat_of (Cal.okd_iff.mpr ⟨by omega, by omega, by omega, by omega⟩) en).symm
  · refine br_no (no_of hd) (br_no (no_of (by omega)) ?_)
    have en : Cal.num Y M (D + 1) = n + 1 := by rw [← o2]; unfold Cal.num; omega
    exact (Cal.dat_of (Cal.okd_iff.mpr ⟨by omega, by omega, by omega, by omega⟩) en).symm

end Go.Proofs.YtjdpkihlgpojkaaGreatDoor
/- The reference: which days fit, and whether ever. -/
namespace Go.Proofs.YtjdpkihlgpojkaaGreatDoor
open Go Go.B
set_option linter.unusedSimpArgs false
set_option linter.unusedVariables false
set_option linter.unusedSectionVars false
set_option maxRecDepth 20000

theorem dat_year {n : Int} (h0 : 0 ≤ n) (h1 : n ≤ 2932896) : 0 ≤ (Cal.dat n).1 := by
  obtain ⟨o3, _⟩ := Cal.dat_ok n h0 h1
  obtain ⟨y1, _⟩ := Cal.okd_iff.mp o3
  omega

/-- the days that fit, of so many from one on -/
noncomputable def fitL (c : Cron) (lo : Int) : Nat → List Int
  | 0 => []
  | j + 1 => if fitD c (lo + j) then fitL c lo j ++ [lo + j] else fitL c lo j

theorem fitL_succ (c : Cron) (lo : Int) (j : Nat) : fitL c lo (j + 1) = if fitD c (lo + j) then fitL c lo j ++ [lo + j] else fitL c lo j := rfl

theorem fitL_len (c : Cron) (lo : Int) : ∀ j, (fitL c lo j).length ≤ j
  | 0 => Nat.le_refl _
  | j + 1 => by
    have := fitL_len c lo j
    unfold fitL
    split <;> simp <;> omega

theorem rFit_fn {c : Cron} (hc : c.in) (hok : c.ok = true) {lo : Int} {n : Nat} (h0 : 0 ≤ lo) (hn : 1 ≤ n) (hn2 : n ≤ 2923) (h1 : lo + n ≤ 2932897) : curfewref08_Fit_R c.mi c.ho c.da c.mo c.we lo (lo + n - 1) (fitL c lo n) := by
  have key : ∀ (r i : Nat), i + r = n → ∀ (y m d : Int), 0 ≤ y → (lo + i ≤ 2932896 → (y, m, d) = Cal.dat (lo + i)) →
      ∃ k, curfewref08_Fit_l0 k (fitL c lo i, c.mi, c.ho, c.da, c.mo, c.we, y, m, d, lo + n - 1, lo + (i : Int)) (fitL c lo n) := by
    intro r
    induction r with
    | zero =>
      intro i hi y m d _ _
      have e : i = n := by omega
      subst e
      exact ⟨1, br_no (no_of (by omega)) rfl⟩
    | succ r ih =>
      intro i hi y m d hy hdat
      have hlast : lo + (i : Int) ≤ 2932896 := by omega
      have hdat := hdat hlast
      have d0 : 0 ≤ lo + (i : Int) := by omega
      obtain ⟨z, hz, hz2⟩ : ∃ z, curfewref08_behind_R y m d z ∧ (0 ≤ z.1 ∧ (lo + ((i + 1 : Nat) : Int) ≤ 2932896 → z = Cal.dat (lo + ((i + 1 : Nat) : Int)))) := by
        by_cases hn : lo + (i : Int) < 2932896
        · have hb := dat_behind d0 hn
          rw [← hdat] at hb
          have e : lo + (i : Int) + 1 = lo + ((i + 1 : Nat) : Int) := by omega
          rw [e] at hb
          exact ⟨_, hb, dat_year (by omega) (by omega), fun _ => rfl⟩
        · have en : lo + (i : Int) = 2932896 := by omega
          rw [en] at hdat
          have e : Cal.dat 2932896 = (9999, 12, 31) := by rw [dat_C (by decide)]; decide
          rw [e] at hdat
          cases hdat
          exact ⟨(10000, 1, 1), ⟨_, rLong_fn (by omega), br_yes (by decide) (br_yes (by decide) (by decide))⟩, by decide, fun h => by omega⟩
      obtain ⟨k, hk⟩ := ih (i + 1) (by omega) z.1 z.2.1 z.2.2 hz2.1 hz2.2
      have hfit := rfits_fn hc hok (y := y) (m := m) (d := d) d0
      have ef : fitB c m d ((lo + (i : Int) + 4) % 7) = fitD c (lo + (i : Int)) := by
        unfold fitD
        rw [← hdat, show dayB (lo + (i : Int)) = true by simp [dayB]; omega]; rfl
      rw [ef] at hfit
      have enext : IntKind.wrap .i64 (lo + (i : Int) + 1) = lo + ((i + 1 : Nat) : Int) := by rw [wi (by omega) (by omega)]; omega
      have fl := fitL_len c lo i
      rw [fitL_succ] at hk
      cases hf : fitD c (lo + (i : Int))
      · rw [hf] at hfit hk
        refine ⟨k + 1, br_yes (yes_of (by omega)) ⟨_, hfit, br_no rfl ⟨_, hz, ?_⟩⟩⟩
        show curfewref08_Fit_l0 k (_, _, _, _, _, _, _, _, _, _, IntKind.wrap .i64 (lo + (i : Int) + 1)) _
        rw [enext]; simpa using hk
      · rw [hf] at hfit hk
        refine ⟨k + 1, br_yes (yes_of (by omega)) ⟨_, hfit, br_yes rfl ⟨nl_ok (by simp; omega), _, hz, ?_⟩⟩⟩
        show curfewref08_Fit_l0 k (_, _, _, _, _, _, _, _, _, _, IntKind.wrap .i64 (lo + (i : Int) + 1)) _
        rw [enext]; simpa using hk
  obtain ⟨k, hk⟩ := key n 0 (by omega) (Cal.dat lo).1 (Cal.dat lo).2.1 (Cal.dat lo).2.2 (dat_year h0 (by omega)) (fun _ => by simp)
  simp only [Int.natCast_zero, Int.add_zero] at hk
  exact ⟨_, rAt_fn h0 (by omega), _, ⟨k, hk⟩, rfl⟩

theorem fitL_mem {c : Cron} {lo n : Int} : ∀ {j : Nat}, n ∈ fitL c lo j → fitD c n = true ∧ ∃ i : Nat, i < j ∧ n = lo + i
  | 0, h => by simp [fitL] at h
  | j + 1, h => by
    unfold fitL at h
    cases hf : fitD c (lo + (j : Int)) <;> rw [hf] at h
    · obtain ⟨h1, i, h2, h3⟩ := fitL_mem (c := c) (lo := lo) (j := j) (by simpa using h)
      exact ⟨h1, i, by omega, h3⟩
    · simp only [if_true] at h
      rcases List.mem_append.mp h with h | h
      · obtain ⟨h1, i, h2, h3⟩ := fitL_mem h
        exact ⟨h1, i, by omega, h3⟩
      · simp at h; subst h; exact ⟨hf, j, by omega, rfl⟩

theorem fitL_has {c : Cron} {lo : Int} {i : Nat} : ∀ {j : Nat}, i < j → fitD c (lo + i) = true → lo + (i : Int) ∈ fitL c lo j
  | 0, h, _ => absurd h (Nat.not_lt_zero _)
  | j + 1, h, hf => by
    unfold fitL
    rcases Nat.lt_or_ge i j with k | k
    · have := fitL_has k hf
      split
      · exact List.mem_append_left _ this
      · exact this
    · have e : i = j := by omega
      subst e
      rw [hf]; simp

theorem rEver_fn {c : Cron} (hc : c.in) (hok : c.ok = true) : curfewref08_Ever_R c.mi c.ho c.da c.mo c.we (decide (0 < (fitL c 0 2923).length)) := by
  have hf := rFit_fn hc hok (lo := 0) (n := 2923) (by omega) (by omega) (by omega) (by omega)
  exact ⟨_, hf, by rw [Bool.eq_iff_iff, decide_eq_true_iff, decide_eq_true_iff]; omega⟩

theorem ever_fitL {c : Cron} (hok : c.ok = true) : (decide (0 < (fitL c 0 2923).length) = true) ↔ fitsC c := by
  rw [decide_eq_true_iff]
  constructor
  · intro h
    obtain ⟨x, hx⟩ := List.exists_mem_of_length_pos h
    exact ⟨hok, x, (fitL_mem hx).1⟩
  · rintro ⟨_, n, hn⟩
    obtain ⟨n', k1, k2, k3⟩ := recur hn (n0 := 0) (by omega) (by omega)
    have := fitL_has (c := c) (lo := 0) (i := n'.toNat) (j := 2923) (by omega) (by rw [show (0 : Int) + (n'.toNat : Nat) = n' from by omega]; exact k1)
    exact List.length_pos_of_mem this
end Go.Proofs.YtjdpkihlgpojkaaGreatDoor
