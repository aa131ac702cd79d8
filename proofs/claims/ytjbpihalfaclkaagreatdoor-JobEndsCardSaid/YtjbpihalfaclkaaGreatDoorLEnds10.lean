/- The law JobEnds, as plain law. -/
import Derived.Test.YtjbpihalfaclkaaGreatDoorPj
import Derived.Test.YtjbpihalfaclkaaGreatDoorJk
import Derived.Test.YtjbpihalfaclkaaGreatDoorGJobEnds
namespace Go.Proofs.YtjbpihalfaclkaaGreatDoor
open Go Go.B
set_option linter.unusedSimpArgs false
set_option linter.unusedVariables false
set_option linter.unusedSectionVars false
set_option maxRecDepth 20000

theorem timesL_len {j : Job} {hi : Int} : ∀ {d : Nat} {p : Int} {out : List Int}, (timesL j hi d p out).length ≤ out.length + d
  | 0, p, out => by simp [timesL]
  | d + 1, p, out => by
    unfold timesL
    cases firstJ j p with
    | none => simp
    | some t =>
      simp only
      split
      · simp
      · have := timesL_len (j := j) (hi := hi) (d := d) (p := t) (out := out ++ [t])
        simp at this; omega

theorem ends_loop {L : List Int} {lo hi : Int} (hm : ∀ t ∈ L, lo < t ∧ t ≤ hi) (hp : L.Pairwise (· < ·)) (hl : L.length ≤ 5) : ∃ k, curfewlaw10_JobEnds_l0 k (L, lo, hi, (L.length : Int), ((0 : Nat) : Int)) (.inr ()) := by
  refine up_ind (P := fun i => ∃ k, curfewlaw10_JobEnds_l0 k (L, lo, hi, (L.length : Int), (i : Int)) (.inr ())) (n := L.length) ⟨1, br_no (no_of (by omega)) rfl⟩ (fun i hi' ⟨k, hk⟩ => ?_) 0 (Nat.zero_le _)
  obtain ⟨m1, m2⟩ := hm _ (getD_mem hi')
  have e : IntKind.wrap .i64 ((i : Int) + 1) = ((i + 1 : Nat) : Int) := wi_succ (by omega)
  rw [← e] at hk
  refine ⟨k + 1, br_yes (yes_of (by omega)) ⟨ix_ok hi', blt_ok hi', br_no (no_of ?_) (br_no (no_of ?_) ?_)⟩⟩
  · show ¬ L.getD i 0 ≤ lo; omega
  · show ¬ L.getD i 0 > hi; omega
  by_cases h0 : i = 0
  · exact br_no (no_of (by omega)) hk
  · have ep : IntKind.wrap .i64 ((i : Int) - 1) = ((i - 1 : Nat) : Int) := by rw [wi (by omega) (by omega)]; omega
    refine br_yes (yes_of (by omega)) ?_
    rw [ep]
    refine ⟨ix_ok (by omega), blt_ok (by omega), br_no (no_of ?_) hk⟩
    have := List.pairwise_iff_getElem.mp hp (i - 1) i (by omega) hi' (by omega)
    show ¬ L.getD (i - 1) 0 ≥ L.getD i 0
    rw [List.getD_eq_getElem?_getD, List.getD_eq_getElem?_getD, List.getElem?_eq_getElem (by omega), List.getElem?_eq_getElem hi']
    simp only [Option.getD_some]; omega

theorem law_ends10 {j : Job} (h : j.in) (lo hi : Int) : curfewlaw10_JobEnds_R j.name j.once j.c.mi j.c.ho j.c.da j.c.mo j.c.we j.at_ j.ov j.ca j.re lo hi true := by
  refine ⟨_, wakes10, br_no rfl ?_⟩
  cases hg : j.good
  · have e1 : firstJ j lo = none := by unfold firstJ; rw [hg]; rfl
    have e2 : latestJ j hi = none := by unfold latestJ; rw [hg]; rfl
    have f1 := job_First_fn h lo
    have f2 := job_Latest_fn h hi
    rw [e1] at f1
    rw [e2] at f2
    exact ⟨_, job_Times_no h hg lo hi 5, _, f1, _, f2, br_yes (by show (j.ck != 0) = true; rw [ck_ne, hg]; rfl) (br_yes rfl (br_yes rfl ⟨_, job_Idle_no h hg lo hi, rfl⟩))⟩
  have hl5 : (timesL j hi 5 lo []).length ≤ 5 := by have := timesL_len (j := j) (hi := hi) (d := 5) (p := lo) (out := []); simpa using this
  have f1 := job_First_fn h lo
  have f2 := job_Latest_fn h hi
  have fi := job_Idle_fn h hg lo hi
  refine ⟨_, job_Times_fn h hg lo hi (most := 5) (by decide), _, f1, _, f2, br_no rfl ?_⟩
  rcases ends_cases j lo hi with ⟨hn, ht⟩ | ⟨u, hf, hu, ht⟩
  · rw [ht 5]
    rw [ht 1] at fi
    have J2 : curfewlaw10_JobEnds_j2 j.name j.once j.c.mi j.c.ho j.c.da j.c.mo j.c.we j.at_ j.ov j.ca j.re lo hi ([], 0) (ansB (firstJ j lo)) (ansB (latestJ j hi)) true :=
      ⟨_, fi, br_no rfl (br_yes rfl rfl)⟩
    have J3 : curfewlaw10_JobEnds_j3 (ansB (latestJ j hi)) ([], 0) lo j.name j.once j.c.mi j.c.ho j.c.da j.c.mo j.c.we j.at_ j.ov j.ca j.re hi (ansB (firstJ j lo)) true := by
      cases hv : latestJ j hi with
      | none => rw [hv] at J2; exact br_no rfl (br_no rfl J2)
      | some v =>
        rw [hv] at J2
        have := ends_none h hn hv
        refine br_yes rfl (br_no ?_ J2)
        show (!(false == decide (v > lo))) = false
        rw [no_of (by omega)]; rfl
    cases hf : firstJ j lo with
    | none => rw [hf] at J3; exact br_no rfl (br_no rfl J3)
    | some u =>
      rw [hf] at J3
      have := hn u hf
      refine br_yes rfl (br_no ?_ J3)
      show (!(false == decide (u ≤ hi))) = false
      rw [no_of (by omega)]; rfl
  · obtain ⟨v, hv, huv, hlv⟩ := ends_some h hf hu
    obtain ⟨c1, c2⟩ := chain_mem (timesL_chain (j := j) (hi := hi) (d := 5) (p := lo))
    obtain ⟨q1, q2⟩ := ends_last h (d := 4) hf hu hv
    have h0 : (timesL j hi 5 lo []).getD 0 0 = u := by rw [ht 4]; rfl
    have hp : 0 < (timesL j hi 5 lo []).length := by rw [ht 4]; simp
    have ho : j.once = true → (timesL j hi 5 lo []).length = 1 := fun ho => by rw [ht 4, ends_once ho hf 4]; rfl
    have hi1 : (((timesL j hi 1 lo []).length : Int) == 0) = false := by rw [ht 0]; rfl
    rw [hi1] at fi
    rw [hf, hv]
    generalize timesL j hi 5 lo [] = L at *
    obtain ⟨k, hk⟩ := ends_loop (fun t hm => (c1 t hm).2) c2 hl5
    have some_ : decide ((((List.length L) : Nat) : Int) > 0) = true := yes_of (by omega)
    have el : IntKind.wrap .i64 ((((List.length L) : Nat) : Int) - 1) = ((L.length - 1 : Nat) : Int) := by rw [wi (by omega) (by omega)]; omega
    have J0 : curfewlaw10_JobEnds_j0 (L, 0) lo hi true := ⟨_, ⟨k, hk⟩, rfl⟩
    have J1 : curfewlaw10_JobEnds_j1 j.once (L, 0) lo hi true := by
      cases hon : j.once
      · exact br_no rfl J0
      · have := ho hon
        exact br_yes rfl (br_no (no_of (by show ¬ (((List.length L) : Nat) : Int) > 1; omega)) J0)
    have J2 : curfewlaw10_JobEnds_j2 j.name j.once j.c.mi j.c.ho j.c.da j.c.mo j.c.we j.at_ j.ov j.ca j.re lo hi (L, 0) (u, true) (v, true) true := by
      refine ⟨_, fi, br_no ?_ (br_no ?_ ?_)⟩
      · show (false == decide ((((List.length L) : Nat) : Int) > 0)) = false
        rw [some_]; rfl
      · show (!(decide ((((List.length L) : Nat) : Int) > 0))) = false
        rw [some_]; rfl
      · unfold curfewlaw10_JobEnds_j1 at J1 ⊢
        show req (decide (0 < (((List.length L) : Nat) : Int))) (req (Nat.blt 0 (List.length L)) (br (L.getD 0 0 != u) _ (req ((decide (0 ≤ (IntKind.wrap .i64 ((((List.length L) : Nat) : Int) - 1)))) && (decide ((IntKind.wrap .i64 ((((List.length L) : Nat) : Int) - 1)) < (((List.length L) : Nat) : Int)))) (req (Nat.blt (Int.toNat (IntKind.wrap .i64 ((((List.length L) : Nat) : Int) - 1))) (List.length L)) (br (decide ((List.getD L (Int.toNat (IntKind.wrap .i64 ((((List.length L) : Nat) : Int) - 1))) 0) > v)) _ (br (decide ((((List.length L) : Nat) : Int) < 5)) (req ((decide (0 ≤ (IntKind.wrap .i64 ((((List.length L) : Nat) : Int) - 1)))) && (decide ((IntKind.wrap .i64 ((((List.length L) : Nat) : Int) - 1)) < (((List.length L) : Nat) : Int)))) (req (Nat.blt (Int.toNat (IntKind.wrap .i64 ((((List.length L) : Nat) : Int) - 1))) (List.length L)) (br ((List.getD L (Int.toNat (IntKind.wrap .i64 ((((List.length L) : Nat) : Int) - 1))) 0) != v) _ _))) _))))))
        rw [el]
        refine ⟨yes_of (by omega), blt_ok (i := 0) hp, br_no (by rw [h0]; simp) ⟨ix_ok (by omega), blt_ok (by omega), br_no (no_of ?_) ?_⟩⟩
        · show ¬ L.getD (L.length - 1) 0 > v; omega
        by_cases h5 : L.length < 5
        · refine br_yes (yes_of (by omega)) ⟨ix_ok (by omega), blt_ok (by omega), br_no ?_ J1⟩
          show (L.getD (L.length - 1) 0 != v) = false
          rw [q2 h5]; simp
        · exact br_no (no_of (by omega)) J1
    have J3 : curfewlaw10_JobEnds_j3 (v, true) (L, 0) lo j.name j.once j.c.mi j.c.ho j.c.da j.c.mo j.c.we j.at_ j.ov j.ca j.re hi (u, true) true := by
      refine br_yes rfl (br_no ?_ J2)
      show (!(decide ((((List.length L) : Nat) : Int) > 0) == decide (v > lo))) = false
      rw [some_, yes_of (by omega)]; rfl
    refine br_yes rfl (br_no ?_ J3)
    show (!(decide ((((List.length L) : Nat) : Int) > 0) == decide (u ≤ hi))) = false
    rw [some_, yes_of (by omega)]; rfl

abbrev jobX2 : Ty := .pr (.int .u32) (.pr .bool (.pr (.pr (.int .u64) (.pr (.int .u64) (.pr (.int .u64) (.pr (.int .u64) (.int .u64))))) (.pr (.int .i64) (.pr (.int .i64) (.pr (.int .i64) (.int .i64))))))

theorem law_JobEnds (x0 : jobX2.den) (i0 : inT jobX2 x0) (x1 : (Ty.pr (.int .i64) (.int .i64)).den) (i1 : inT (.pr (.int .i64) (.int .i64)) x1) : curfewlaw10_JobEnds_R x0.1 x0.2.1 x0.2.2.1.1 x0.2.2.1.2.1 x0.2.2.1.2.2.1 x0.2.2.1.2.2.2.1 x0.2.2.1.2.2.2.2 x0.2.2.2.1 x0.2.2.2.2.1 x0.2.2.2.2.2.1 x0.2.2.2.2.2.2 x1.1 x1.2 true :=
  law_ends10 (j := ⟨x0.1, x0.2.1, ⟨x0.2.2.1.1, x0.2.2.1.2.1, x0.2.2.1.2.2.1, x0.2.2.1.2.2.2.1, x0.2.2.1.2.2.2.2⟩, x0.2.2.2.1, x0.2.2.2.2.1, x0.2.2.2.2.2.1, x0.2.2.2.2.2.2⟩)
    ⟨⟨u64_range i0.2.2.1.1, u64_range i0.2.2.1.2.1, u64_range i0.2.2.1.2.2.1, u64_range i0.2.2.1.2.2.2.1, u64_range i0.2.2.1.2.2.2.2⟩, i64_range i0.2.2.2.1⟩ x1.1 x1.2
end Go.Proofs.YtjbpihalfaclkaaGreatDoor
