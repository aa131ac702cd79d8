/- What Go functions come to (printed by gb.py). -/
import Derived.Test.YtjbpihalfaclkaaGreatDoorGx
namespace Go.Proofs.YtjbpihalfaclkaaGreatDoor
open Go Go.B Go.RowKit
set_option linter.unusedVariables false
set_option linter.unusedSimpArgs false
set_option maxRecDepth 100000
attribute [local irreducible] Go.B.acall Go.B.acode
abbrev A6 : RT := (.cons (.agg (.cons (.int .u32) (.cons .bool (.cons (.int .u64) (.cons (.int .u64) (.cons (.int .u64) (.cons (.int .u64) (.cons (.int .u64) (.cons (.int .i64) (.cons (.int .i64) (.cons (.int .i64) (.one (.int .i64))))))))))))) (.one (.int .i64)))
abbrev B6 : RT := .bool
noncomputable def q6_cx : Cx := ⟨tyT, [(6, .body Tryz.f6), e15, e20, e21, e28, e29, e30, e31], gsT, eqT, false⟩
def curfewlaw10_JobCron_R (a0 : Int) (a1 : Bool) (a2 : Int) (a3 : Int) (a4 : Int) (a5 : Int) (a6 : Int) (a7 : Int) (a8 : Int) (a9 : Int) (a10 : Int) (a11 : Int) (y : Bool) : Prop :=
  (∃ y1 : Bool, (curfewlaw10_wakes_R y1) ∧ (br (!y1) (false = y) (∃ y2 : Int × Bool, (job_First_R a0 a1 a2 a3 a4 a5 a6 a7 a8 a9 a10 a11 y2) ∧ (∃ y3 : Int, (job_Check_R a0 a1 a2 a3 a4 a5 a6 a7 a8 a9 a10 y3) ∧ (br (y3 != 0) (br (!(y2.2)) (((y2.1) == 0) = y) (false = y)) (br a1 (∃ y4 : Int × Bool, (job_Latest_R a0 a1 a2 a3 a4 a5 a6 a7 a8 a9 a10 a11 y4) ∧ (br (!((y2.2) == (y4.2))) (br (!(y2.2)) (br (!(y4.2)) (true = y) (((y4.1) == a7) = y)) (br ((y2.1) == a7) (br (!(y4.2)) (true = y) (((y4.1) == a7) = y)) (false = y))) (false = y))) (∃ y5 : Int × Bool, (next_Next_R a2 a3 a4 a5 a6 a11 y5) ∧ (br ((y2.1) == (y5.1)) (br ((y2.2) == (y5.2)) (br (!(y2.2)) (∃ y6 : Bool, (next_Ever_R a2 a3 a4 a5 a6 y6) ∧ (y6 = y)) (∃ y7 : Bool, (cron_At_R a2 a3 a4 a5 a6 (y2.1) y7) ∧ (br y7 (∃ y8 : Bool, (next_Ever_R a2 a3 a4 a5 a6 y8) ∧ (y8 = y)) (false = y)))) (false = y)) (false = y)))))))))
theorem q6_t (a0 : Int) (a1 : Bool) (a2 : Int) (a3 : Int) (a4 : Int) (a5 : Int) (a6 : Int) (a7 : Int) (a8 : Int) (a9 : Int) (a10 : Int) (a11 : Int) (y : Bool) : acall q6_cx okT lpT 60 (.fn 6 [] []) [(V.agg [(V.int .u32 a0), (vb a1), (vu a2), (vu a3), (vu a4), (vu a5), (vu a6), (vi a7), (vi a8), (vi a9), (vi a10)]), (vi a11)] [] (leafK B6 y) = curfewlaw10_JobCron_R a0 a1 a2 a3 a4 a5 a6 a7 a8 a9 a10 a11 y := by kernel_rfl
theorem curfewlaw10_JobCron_ok : FxOk Tryz.prog gsT 6 A6 B6 fun x y => curfewlaw10_JobCron_R (x.1.1) (x.1.2.1) (x.1.2.2.1) (x.1.2.2.2.1) (x.1.2.2.2.2.1) (x.1.2.2.2.2.2.1) (x.1.2.2.2.2.2.2.1) (x.1.2.2.2.2.2.2.2.1) (x.1.2.2.2.2.2.2.2.2.1) (x.1.2.2.2.2.2.2.2.2.2.1) (x.1.2.2.2.2.2.2.2.2.2.2) (x.2) y := fx_of (c := q6_cx) (ty_ok rfl) (eq_ok rfl) (Fns_assoc ⟨body_ent Tryz.func6 (by kernel_rfl) (by kernel_rfl), curfewlaw10_wakes_ok, job_First_ok, job_Latest_ok, job_Check_ok, next_Next_ok, cron_At_ok, next_Ever_ok, trivial⟩) follows_ok (ok := okT) (lp := lpT) (n := 60) lp_ok (enters Tryz.func6 (by kernel_rfl) rfl) (fun y => ⟨_, rfl⟩) fun x y h => Eq.mpr (q6_t _ _ _ _ _ _ _ _ _ _ _ _ y) h
def e6 : Nat × Ent := (6, .fx A6 B6 fun x y => curfewlaw10_JobCron_R (x.1.1) (x.1.2.1) (x.1.2.2.1) (x.1.2.2.2.1) (x.1.2.2.2.2.1) (x.1.2.2.2.2.2.1) (x.1.2.2.2.2.2.2.1) (x.1.2.2.2.2.2.2.2.1) (x.1.2.2.2.2.2.2.2.2.1) (x.1.2.2.2.2.2.2.2.2.2.1) (x.1.2.2.2.2.2.2.2.2.2.2) (x.2) y)
end Go.Proofs.YtjbpihalfaclkaaGreatDoor
