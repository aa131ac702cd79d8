/- The law JobTimes, as plain law. -/
import Derived.Test.YtjbpihalfaclkaaGreatDoorPj
import Derived.Test.YtjbpihalfaclkaaGreatDoorRk
import Derived.Test.YtjbpihalfaclkaaGreatDoorBk
import Derived.Test.YtjbpihalfaclkaaGreatDoorGJobTimes
namespace Go.Proofs.YtjbpihalfaclkaaGreatDoor
open Go Go.B
set_option linter.unusedSimpArgs false
set_option linter.unusedVariables false
set_option linter.unusedSectionVars false
set_option maxRecDepth 20000

theorem job_Times_bad {j : Job} (h : j.in) (hg : j.good = true) (lo hi : Int) {most : Int} (hm : most < 0 ∨ 64 < most) : job_Times_R j.name j.once j.c.mi j.c.ho j.c.da j.c.mo j.c.we j.at_ j.ov j.ca j.re lo hi most ([], 2) := by
  refine ⟨_, job_Check_fn h, br_no (by rw [ck_ne, hg]; rfl) ?_⟩
  by_cases h0 : most < 0
  · exact br_yes (yes_of h0) rfl
  · exact br_no (no_of h0) (br_yes (yes_of (by omega)) rfl)

theorem job_Times_not {j : Job} (h : j.in) (hg : j.good = false) (lo hi : Int) (most : Int) : job_Times_R j.name j.once j.c.mi j.c.ho j.c.da j.c.mo j.c.we j.at_ j.ov j.ca j.re lo hi most ([], j.ck) :=
  ⟨_, job_Check_fn h, br_yes (by rw [ck_ne, hg]; rfl) rfl⟩

theorem job_Idle_not {j : Job} (h : j.in) (hg : j.good = false) (lo hi : Int) : job_Idle_R j.name j.once j.c.mi j.c.ho j.c.da j.c.mo j.c.we j.at_ j.ov j.ca j.re lo hi false :=
  ⟨_, job_Times_not h hg lo hi 1, br_no (by show (j.ck == 0) = false; rw [Job.ck_good, hg]) rfl⟩

theorem job_Idle_is {j : Job} (h : j.in) (hg : j.good = true) (lo hi : Int) : job_Idle_R j.name j.once j.c.mi j.c.ho j.c.da j.c.mo j.c.we j.at_ j.ov j.ca j.re lo hi (((timesL j hi 1 lo []).length : Int) == 0) :=
  ⟨_, job_Times_fn h hg lo hi (most := 1) (by decide), br_yes rfl rfl⟩

theorem timesL_small {j : Job} {hi : Int} : ∀ {d : Nat} {p : Int} {out : List Int}, (timesL j hi d p out).length ≤ out.length + d
  | 0, p, out => by simp [timesL]
  | d + 1, p, out => by
    unfold timesL
    cases firstJ j p with
    | none => simp
    | some t =>
      simp only
      split
      · simp
      · have := timesL_small (j := j) (hi := hi) (d := d) (p := t) (out := out ++ [t])
        simp at this; omega

theorem bne_self (x : Int) : (x != x) = false := by simp

theorem beq_self (x : Bool) : (!(x == x)) = false := by cases x <;> rfl

theorem times10_loop {j : Job} (h : j.in) {spans : List (Int × Int)} (hl : spans.length ≤ 9223372036854775807) (most : Int) :
    ∃ k, curfewlaw10_JobTimes_l0 k (j.name, j.once, j.c.mi, j.c.ho, j.c.da, j.c.mo, j.c.we, j.at_, j.ov, j.ca, j.re, most, j.ck, spans, (spans.length : Int), ((0 : Nat) : Int)) (.inl ()) := by
  refine up_ind (P := fun i => ∃ k, curfewlaw10_JobTimes_l0 k (j.name, j.once, j.c.mi, j.c.ho, j.c.da, j.c.mo, j.c.we, j.at_, j.ov, j.ca, j.re, most, j.ck, spans, (spans.length : Int), (i : Int)) (.inl ())) (n := spans.length) ⟨1, br_no (no_of (by omega)) rfl⟩ (fun i hi ⟨k, hk⟩ => ?_) 0 (Nat.zero_le _)
  have e : IntKind.wrap .i64 ((i : Int) + 1) = ((i + 1 : Nat) : Int) := wi_succ (by omega)
  rw [← e] at hk
  refine ⟨k + 1, br_yes (yes_of (by omega)) ⟨ix_ok hi, ?_⟩⟩
  by_cases h4 : (i : Int) = 4
  · exact br_yes (by simp [h4]) rfl
  refine br_no (by simp [h4]) ?_
  generalize hs0 : (List.getD spans (Int.toNat (i : Int)) (0, 0)).1 = s0
  generalize hs1 : (List.getD spans (Int.toNat (i : Int)) (0, 0)).2 = s1
  have f1 := job_First_fn h s0
  have f2 := job_Latest_fn h s1
  cases hg : j.good
  · have e1 : firstJ j s0 = none := by unfold firstJ; rw [hg]; rfl
    have e2 : latestJ j s1 = none := by unfold latestJ; rw [hg]; rfl
    rw [e1] at f1
    rw [e2] at f2
    have fi := job_Idle_not h hg s0 s1
    subst hs0; subst hs1
    exact ⟨_, f1, _, f2, _, job_Times_not h hg _ _ most, br_no (by show (j.ck == 0) = false; rw [Job.ck_good, hg]) (br_no rfl (br_no rfl (br_no rfl (br_no rfl (br_no (bne_self _) ⟨_, Equal_yes [] (by decide), br_no rfl ⟨_, fi, br_no rfl hk⟩⟩)))))⟩
  have fi := job_Idle_is h hg s0 s1
  have g1 := rFirst_fn h hg s0
  have g2 := rLatest_fn h hg s1
  have g3 := rTimes_fn h hg s0 s1 (most := 1) (by decide)
  have J0 : curfewlaw10_JobTimes_l0_j0 (curfewlaw10_JobTimes_l0 k) true j.name j.once j.c.mi j.c.ho j.c.da j.c.mo j.c.we j.at_ j.ov j.ca j.re spans (i : Int) (timesL j s1 1 s0 []) most j.ck (spans.length : Int) (.inl ()) := by
    subst hs0; subst hs1
    exact br_no rfl ⟨_, fi, br_no (beq_self _) hk⟩
  have hz : (j.ck == 0) = true := by rw [Job.ck_good, hg]
  by_cases hm : most < 0 ∨ 64 < most
  · have J1 : curfewlaw10_JobTimes_l0_j1 (curfewlaw10_JobTimes_l0 k) (ansB (firstJ j s0)) (ansB (firstJ j s0)) (ansB (latestJ j s1)) (ansB (latestJ j s1)) ([], 2) j.name j.once j.c.mi j.c.ho j.c.da j.c.mo j.c.we j.at_ j.ov j.ca j.re spans (i : Int) (timesL j s1 1 s0 []) most j.ck (spans.length : Int) (.inl ()) :=
      br_no (bne_self _) (br_no (beq_self _) (br_no (bne_self _) (br_no (beq_self _) (br_no rfl ⟨_, Equal_yes [] (by decide), J0⟩))))
    have t1 := job_Times_bad h hg s0 s1 hm
    subst hs0; subst hs1
    refine ⟨_, f1, _, f2, _, t1, br_yes hz ⟨_, g1, _, g2, _, g3, ?_⟩⟩
    by_cases h0 : most < 0
    · exact br_yes (yes_of h0) J1
    · exact br_no (no_of h0) (br_yes (yes_of (by omega)) J1)
  · obtain ⟨n, rfl⟩ : ∃ n : Nat, most = n := ⟨most.toNat, by omega⟩
    have hn : n ≤ 64 := by omega
    have t1 := job_Times_fn h hg s0 s1 hn
    have g4 := rTimes_fn h hg s0 s1 hn
    have hlen := timesL_small (j := j) (hi := s1) (d := n) (p := s0) (out := [])
    have c0 : j.ck = 0 := ck_of hg
    subst hs0; subst hs1
    exact ⟨_, f1, _, f2, _, t1, br_yes hz ⟨_, g1, _, g2, _, g3, br_no (no_of (by omega)) (br_no (no_of (by omega)) ⟨_, g4, br_no (bne_self _) (br_no (beq_self _) (br_no (bne_self _) (br_no (beq_self _) (br_no (by show ((0 : Int) != j.ck) = false; rw [c0]; rfl) ⟨_, Equal_yes _ (Nat.le_trans hlen (by show 0 + n ≤ _; omega)), J0⟩))))⟩)⟩⟩

theorem law_times10 {j : Job} (h : j.in) {spans : List (Int × Int)} (hl : spans.length ≤ 9223372036854775807) (most : Int) : curfewlaw10_JobTimes_R j.name j.once j.c.mi j.c.ho j.c.da j.c.mo j.c.we j.at_ j.ov j.ca j.re spans most true := by
  obtain ⟨k, hk⟩ := times10_loop h hl (if (IntKind.wrap .i64 (9 + (IntKind.wrap .i64 (64 * (IntKind.wrap .i64 (Int.tdiv most 65)))))) < most then (IntKind.wrap .i64 (9 + (IntKind.wrap .i64 (64 * (IntKind.wrap .i64 (Int.tdiv most 65)))))) else most)
  exact ⟨_, wakes10, br_no rfl ⟨_, rCheck_fn h, _, ⟨k, hk⟩, rfl⟩⟩

abbrev jobX4 : Ty := .pr (.int .u32) (.pr .bool (.pr (.pr (.int .u64) (.pr (.int .u64) (.pr (.int .u64) (.pr (.int .u64) (.int .u64))))) (.pr (.int .i64) (.pr (.int .i64) (.pr (.int .i64) (.int .i64))))))

abbrev spanX : Ty := .sl (.pr (.int .i64) (.int .i64))

theorem law_JobTimes (x0 : jobX4.den) (i0 : inT jobX4 x0) (x1 : spanX.den) (i1 : inT spanX x1) (x2 : Int) (i2 : inT (.int .i64) x2) :
    curfewlaw10_JobTimes_R x0.1 x0.2.1 x0.2.2.1.1 x0.2.2.1.2.1 x0.2.2.1.2.2.1 x0.2.2.1.2.2.2.1 x0.2.2.1.2.2.2.2 x0.2.2.2.1 x0.2.2.2.2.1 x0.2.2.2.2.2.1 x0.2.2.2.2.2.2 x1 x2 true :=
  law_times10 (j := ⟨x0.1, x0.2.1, ⟨x0.2.2.1.1, x0.2.2.1.2.1, x0.2.2.1.2.2.1, x0.2.2.1.2.2.2.1, x0.2.2.1.2.2.2.2⟩, x0.2.2.2.1, x0.2.2.2.2.1, x0.2.2.2.2.2.1, x0.2.2.2.2.2.2⟩)
    ⟨⟨u64_range i0.2.2.1.1, u64_range i0.2.2.1.2.1, u64_range i0.2.2.1.2.2.1, u64_range i0.2.2.1.2.2.2.1, u64_range i0.2.2.1.2.2.2.2⟩, i64_range i0.2.2.2.1⟩ (by have := i1.1; simpa [maxLen] using this) x2
end Go.Proofs.YtjbpihalfaclkaaGreatDoor
