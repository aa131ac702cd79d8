/- The law CronDays, as plain law. -/
import Derived.Test.YtjbpihalfaclkaaGreatDoorPc
import Derived.Test.YtjbpihalfaclkaaGreatDoorPg
import Derived.Test.YtjbpihalfaclkaaGreatDoorGCronDays
namespace Go.Proofs.YtjbpihalfaclkaaGreatDoor
open Go Go.B
set_option linter.unusedSimpArgs false
set_option linter.unusedVariables false
set_option linter.unusedSectionVars false
set_option maxRecDepth 20000

theorem whole_day {d : Int} (h1 : 1 ≤ d) (h2 : d ≤ 31) : hasB 4294967294 d = true := by
  have key : ∀ k : Fin 32, 1 ≤ k.val → hasB 4294967294 (k.val : Int) = true := by decide
  have := key ⟨d.toNat, by omega⟩ (by simp; omega)
  rw [show ((d.toNat : Nat) : Int) = d from by omega] at this
  exact this

theorem whole_we {w : Int} (h1 : 0 ≤ w) (h2 : w ≤ 6) : hasB 127 w = true := by
  have key : ∀ k : Fin 7, hasB 127 (k.val : Int) = true := by decide
  have := key ⟨w.toNat, by omega⟩
  simp only at this
  rw [show ((w.toNat : Nat) : Int) = w from by omega] at this
  exact this

abbrev T6 (Y m d hh mm ss : Int) : (Int × Int × Int × Int × Int × Int) × Int := ((Y, m, d, hh, mm, ss), 0)

theorem days_j0 {c : Cron} (hc : c.in) {t Y m d hh mm ss : Int} {is : Bool} (h0 : 0 ≤ t) (hv : atV c t = (decide (t % 60 = 0) && (is && (hasB c.ho hh && hasB c.mi mm)))) :
    curfewlaw07_CronDays_j0 c.mi c.ho c.da c.mo c.we t is (T6 Y m d hh mm ss) true := by
  have hat := cron_At_all hc t
  rw [hv] at hat
  refine ⟨_, hat, ?_⟩
  cases is
  · refine br_no rfl ?_
    cases decide (t % 60 = 0) <;> rfl
  refine br_yes rfl ?_
  have et : Int.tmod t 60 = t % 60 := Int.tmod_eq_emod_of_nonneg h0
  rw [et]
  by_cases hz : t % 60 = 0
  · refine br_yes (by simpa using hz) ⟨_, mask_Has_fn hc.2.1 _, ?_⟩
    rw [yes_of hz]
    show br (hasB c.ho hh) _ _
    cases hasB c.ho hh
    · exact br_no rfl rfl
    · exact br_yes rfl ⟨_, mask_Has_fn hc.1 _, by show ((true && (true && (true && hasB c.mi mm))) == hasB c.mi mm) = true; simp⟩
  · refine br_no (by simpa using hz) ?_
    rw [no_of hz]; rfl

theorem days_j1 {c : Cron} (hc : c.in) {t Y m d hh mm ss : Int} {w : Bool} (h0 : 0 ≤ t)
    (D1 : cron_Day_R c.mi c.ho c.da c.mo c.we Y m d (hasB c.mo m && (if c.da == 4294967294 || c.we == 127 then hasB c.da d && w else hasB c.da d || w)))
    (A1 : cron_Day_R c.mi c.ho 4294967294 c.mo c.we Y m d (hasB c.mo m && w)) (B1 : cron_Day_R c.mi c.ho c.da c.mo 127 Y m d (hasB c.mo m && hasB c.da d))
    (hv : atV c t = (decide (t % 60 = 0) && ((hasB c.mo m && (if c.da == 4294967294 || c.we == 127 then hasB c.da d && w else hasB c.da d || w)) && (hasB c.ho hh && hasB c.mi mm)))) :
    curfewlaw07_CronDays_j1 c.mi c.ho c.da c.mo c.we (T6 Y m d hh mm ss) 4294967294 127 t true := by
  have J0 := days_j0 (ss := ss) (Y := Y) (m := m) (d := d) hc h0 hv
  refine ⟨_, D1, ?_⟩
  by_cases e1 : c.da = 4294967294
  · exact br_no (by simp [e1]) J0
  refine br_yes (by simp [e1]) ?_
  by_cases e2 : c.we = 127
  · exact br_no (by simp [e2]) J0
  refine br_yes (by simp [e2]) ⟨_, A1, ?_⟩
  have ei : (if c.da == 4294967294 || c.we == 127 then hasB c.da d && w else hasB c.da d || w) = (hasB c.da d || w) := by
    rw [if_neg (by simp [e1, e2])]
  rw [ei] at J0 ⊢
  clear hv D1 A1 ei
  revert J0 B1
  generalize hasB c.mo m = M
  generalize hasB c.da d = E
  intro B1 J0
  cases M <;> cases E <;> cases w <;>
    first
      | exact br_yes rfl (br_no rfl J0)
      | exact br_no rfl ⟨_, B1, br_no rfl J0⟩

theorem law_days07 {c : Cron} (hc : c.in) (t : Int) : curfewlaw07_CronDays_R c.mi c.ho c.da c.mo c.we t true := by
  refine ⟨_, wakes07, br_no rfl ?_⟩
  have hat := cron_At_all hc t
  cases hm : mayT t
  · have e : atV c t = false := by unfold atV; rw [hm]; rfl
    rw [e] at hat
    exact ⟨_, times_At_no hm, _, ⟨_, times_May_fn t, br_yes (by rw [hm]; rfl) rfl⟩, br_yes rfl ⟨_, hat, rfl⟩⟩
  obtain ⟨h0, h1⟩ := mayT_true hm
  have hd : dayB (t / 86400) = true := by simp [dayB]; omega
  have tw : times_Weekday_R t ((t / 86400 + 4) % 7, 0) := by
    have e : IntKind.wrap .i64 (Int.tdiv t 86400) = t / 86400 := by
      rw [Int.tdiv_eq_ediv_of_nonneg h0]; exact wi (by omega) (by omega)
    refine ⟨_, times_May_fn t, br_no (by rw [hm]; rfl) ⟨_, ?_, rfl⟩⟩
    rw [e]; exact days_Weekday_fn hd
  refine ⟨_, times_At_fn hm, _, tw, br_no rfl (br_no rfl ⟨_, cron_Check_fn hc, ?_⟩)⟩
  cases hok : c.ok
  · have e : atV c t = false := by unfold atV dayV; rw [hok]; cases mayT t <;> cases decide (t % 60 = 0) <;> rfl
    rw [e] at hat
    exact br_yes rfl ⟨_, hat, rfl⟩
  refine br_no rfl ?_
  obtain ⟨d0, d1⟩ := dayB_true hd
  obtain ⟨o1, o2⟩ := Cal.dat_ok _ d0 d1
  have hw0 : 0 ≤ (t / 86400 + 4) % 7 := Int.emod_nonneg _ (by decide)
  have hw1 : (t / 86400 + 4) % 7 ≤ 6 := by omega
  have hv : atV c t = (decide (t % 60 = 0) && (fitB c (Cal.dat (t / 86400)).2.1 (Cal.dat (t / 86400)).2.2 ((t / 86400 + 4) % 7) && (hasB c.ho (t % 86400 / 3600) && hasB c.mi (t % 86400 % 3600 / 60)))) := by
    unfold atV dayV
    rw [hm, hok, o1, o2]; simp only [Bool.true_and]
  have C1 := cron_Day_fn hc hok o1
  rw [o2] at C1
  obtain ⟨q1, q2, q3, q4⟩ := Cal.okd_iff.mp o1
  have q5 := (Cal.long_bd (Cal.dat (t / 86400)).1 (Cal.dat (t / 86400)).2.1).2
  have hok' := hok
  unfold Cron.ok at hok'
  simp only [Bool.and_eq_true] at hok'
  obtain ⟨⟨⟨⟨k0, k1⟩, k2⟩, k3⟩, k4⟩ := hok'
  have wd : okF 2 4294967294 = true := by decide
  have ww : okF 4 127 = true := by decide
  have uw : U64 4294967294 := ⟨by decide, by decide⟩
  have uv : U64 127 := ⟨by decide, by decide⟩
  have A1 := cron_Day_fn (c := ⟨c.mi, c.ho, 4294967294, c.mo, c.we⟩) ⟨hc.1, hc.2.1, uw, hc.2.2.2.1, hc.2.2.2.2⟩ (by unfold Cron.ok; simp only [k0, k1, k3, k4, wd, Bool.and_true]) o1
  have B1 := cron_Day_fn (c := ⟨c.mi, c.ho, c.da, c.mo, 127⟩) ⟨hc.1, hc.2.1, hc.2.2.1, hc.2.2.2.1, uv⟩ (by unfold Cron.ok; simp only [k0, k1, k2, k3, ww, Bool.and_true]) o1
  rw [o2] at A1 B1
  have ea : fitB ⟨c.mi, c.ho, 4294967294, c.mo, c.we⟩ (Cal.dat (t / 86400)).2.1 (Cal.dat (t / 86400)).2.2 ((t / 86400 + 4) % 7) = (hasB c.mo (Cal.dat (t / 86400)).2.1 && hasB c.we ((t / 86400 + 4) % 7)) := by
    unfold fitB
    simp only [whole_day q3 (by omega)]
    simp
  have eb : fitB ⟨c.mi, c.ho, c.da, c.mo, 127⟩ (Cal.dat (t / 86400)).2.1 (Cal.dat (t / 86400)).2.2 ((t / 86400 + 4) % 7) = (hasB c.mo (Cal.dat (t / 86400)).2.1 && hasB c.da (Cal.dat (t / 86400)).2.2) := by
    unfold fitB
    simp only [whole_we hw0 hw1]
    simp
  rw [ea] at A1
  rw [eb] at B1
  unfold fitB at C1 hv
  have J1 := days_j1 (hh := t % 86400 / 3600) (mm := t % 86400 % 3600 / 60) (ss := t % 86400 % 60) hc h0 C1 A1 B1 hv
  have hW : ∀ x y : Bool, (!((x && y) == (x && y))) = false := fun x y => by cases x <;> cases y <;> rfl
  have J2 : curfewlaw07_CronDays_j2 c.mi c.ho c.da c.mo 127 (T6 (Cal.dat (t / 86400)).1 (Cal.dat (t / 86400)).2.1 (Cal.dat (t / 86400)).2.2 (t % 86400 / 3600) (t % 86400 % 3600 / 60) (t % 86400 % 60)) (hasB c.mo (Cal.dat (t / 86400)).2.1) (hasB c.da (Cal.dat (t / 86400)).2.2) c.we 4294967294 t true := by
    refine ⟨_, B1, ?_⟩
    cases hasB c.mo (Cal.dat (t / 86400)).2.1
    · exact br_no rfl (br_no rfl J1)
    · exact br_yes rfl (br_no (by simp) J1)
  refine ⟨_, field_Whole_fn 2 (by decide), _, field_Whole_fn 4 (by decide), _, mask_Has_fn hc.2.2.2.1 _, _, mask_Has_fn hc.2.2.2.2 _, _, mask_Has_fn hc.2.2.1 _, _, A1, ?_⟩
  revert J2
  show _ → br (hasB c.mo (Cal.dat (t / 86400)).2.1) _ _
  intro J2
  cases hM : hasB c.mo (Cal.dat (t / 86400)).2.1
  · rw [hM] at J2
    exact br_no rfl (br_no rfl J2)
  · rw [hM] at J2
    exact br_yes rfl (br_no (by simp) J2)

abbrev f5D : Ty := .pr (.int .u64) (.pr (.int .u64) (.pr (.int .u64) (.pr (.int .u64) (.int .u64))))

theorem law_CronDays (x0 : f5D.den) (i0 : inT f5D x0) (x1 : Int) (i1 : inT (.int .i64) x1) : curfewlaw07_CronDays_R x0.1 x0.2.1 x0.2.2.1 x0.2.2.2.1 x0.2.2.2.2 x1 true :=
  law_days07 (c := ⟨x0.1, x0.2.1, x0.2.2.1, x0.2.2.2.1, x0.2.2.2.2⟩) ⟨u64_range i0.1, u64_range i0.2.1, u64_range i0.2.2.1, u64_range i0.2.2.2.1, u64_range i0.2.2.2.2⟩ x1
end Go.Proofs.YtjbpihalfaclkaaGreatDoor
