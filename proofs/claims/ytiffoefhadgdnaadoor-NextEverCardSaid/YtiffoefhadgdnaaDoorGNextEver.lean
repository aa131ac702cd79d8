/- What Go functions come to (printed by gb.py). -/
import Derived.Test.YtiffoefhadgdnaaDoorGx
namespace Go.Proofs.YtiffoefhadgdnaaDoor
open Go Go.B Go.RowKit
set_option linter.unusedVariables false
set_option linter.unusedSimpArgs false
set_option maxRecDepth 100000
attribute [local irreducible] Go.B.acall Go.B.acode
noncomputable def q6_cx : Cx := ⟨tyT, [(6, .body Tryd.f6),
  (12, .fx (.one .none) .bool fun x y => curfewlaw08_wakes_R y),
  (17, .fx (.cons (.agg (.cons (.int .u64) (.cons (.int .u64) (.cons (.int .u64) (.cons (.int .u64) (.one (.int .u64))))))) (.one (.int .i64))) (.tup (.cons (.int .i64) (.one .bool))) fun x y => next_Next_R (x.1.1) (x.1.2.1) (x.1.2.2.1) (x.1.2.2.2.1) (x.1.2.2.2.2) (x.2) y),
  (18, .fx (.cons (.agg (.cons (.int .u64) (.cons (.int .u64) (.cons (.int .u64) (.cons (.int .u64) (.one (.int .u64))))))) (.one (.int .i64))) (.tup (.cons (.int .i64) (.one .bool))) fun x y => next_Last_R (x.1.1) (x.1.2.1) (x.1.2.2.1) (x.1.2.2.2.1) (x.1.2.2.2.2) (x.2) y),
  (21, .fx (.one (.agg (.cons (.int .u64) (.cons (.int .u64) (.cons (.int .u64) (.cons (.int .u64) (.one (.int .u64)))))))) .bool fun x y => next_Ever_R (x.1) (x.2.1) (x.2.2.1) (x.2.2.2.1) (x.2.2.2.2) y),
  (23, .fx (.one (.agg (.cons (.int .u64) (.cons (.int .u64) (.cons (.int .u64) (.cons (.int .u64) (.one (.int .u64)))))))) (.int .i64) fun x y => cron_Check_R (x.1) (x.2.1) (x.2.2.1) (x.2.2.2.1) (x.2.2.2.2) y)], gsT, eqT⟩
theorem q6_fns : FnsOk Tryd.prog q6_cx := Fns_assoc ⟨body_ent Tryd.func6 (by kernel_rfl) (by kernel_rfl), curfewlaw08_wakes_ok, next_Next_ok, next_Last_ok, next_Ever_ok, cron_Check_ok, trivial⟩
def curfewlaw08_NextEver_R (a0 : Int) (a1 : Int) (a2 : Int) (a3 : Int) (a4 : Int) (a5 : Int) (y : Bool) : Prop :=
  (∃ y1 : Bool, (curfewlaw08_wakes_R y1) ∧ (br (!y1) (false = y) (∃ y2 : Bool, (next_Ever_R a0 a1 a2 a3 a4 y2) ∧ (∃ y3 : Int × Bool, (next_Next_R a0 a1 a2 a3 a4 (IntKind.wrap .i64 (Int.tmod (IntKind.wrap .u64 a5) 253149753600)) y3) ∧ (∃ y4 : Int × Bool, (next_Last_R a0 a1 a2 a3 a4 (IntKind.wrap .i64 ((IntKind.wrap .i64 (Int.tmod (IntKind.wrap .u64 a5) 253149753600)) + 252460800)) y4) ∧ (br ((y3.2) == y2) (br ((y4.2) == y2) (∃ y5 : Int, (cron_Check_R a0 a1 a2 a3 a4 y5) ∧ (br (y5 == 0) (true = y) ((!y2) = y))) (false = y)) (false = y)))))))
theorem q6_tree (a0 : Int) (a1 : Int) (a2 : Int) (a3 : Int) (a4 : Int) (a5 : Int) (y : Bool) : acall q6_cx okT lpT 60 (.fn 6 [] []) [(V.agg [(V.int .u64 a0), (V.int .u64 a1), (V.int .u64 a2), (V.int .u64 a3), (V.int .u64 a4)]), (V.int .i64 a5)] [] (leafK .bool y) =
    (rqn 2 (∃ y1 : Bool, (curfewlaw08_wakes_R y1) ∧ (req true (br (!y1) (req true (req true (false = y))) (rqn 2 (∃ y2 : Bool, (next_Ever_R a0 a1 a2 a3 a4 y2) ∧ (rqn 9 (∃ y3 : Int × Bool, (next_Next_R a0 a1 a2 a3 a4 (wI (Int.tmod (IntKind.wrap .u64 a5) 253149753600)) y3) ∧ (rqn 9 (∃ y4 : Int × Bool, (next_Last_R a0 a1 a2 a3 a4 (wI ((wI (Int.tmod (IntKind.wrap .u64 a5) 253149753600)) + 252460800)) y4) ∧ (rqn 9 (br ((y3.2) == y2) (rqn 5 (br ((y4.2) == y2) (rqn 2 (∃ y5 : Int, (cron_Check_R a0 a1 a2 a3 a4 y5) ∧ (rqn 2 (br (y5 == 0) (rqn 3 (req true (true = y))) (rqn 5 (req true ((!y2) = y))))))) (rqn 2 (req true (false = y))))) (rqn 4 (req true (false = y))))))))))))))) := by kernel_rfl
theorem q6_run (a0 : Int) (a1 : Int) (a2 : Int) (a3 : Int) (a4 : Int) (a5 : Int) (y : Bool) (h : curfewlaw08_NextEver_R a0 a1 a2 a3 a4 a5 y) : acall q6_cx okT lpT 60 (.fn 6 [] []) [(V.agg [(V.int .u64 a0), (V.int .u64 a1), (V.int .u64 a2), (V.int .u64 a3), (V.int .u64 a4)]), (V.int .i64 a5)] [] (leafK .bool y) := by
  refine cast (q6_tree a0 a1 a2 a3 a4 a5 y).symm ?_
  unfold curfewlaw08_NextEver_R at h
  refine rqn_intro 2 ?_
  refine ex_both h fun y1 h => ?_
  refine req_intro rfl ?_
  refine br_both h (fun hb h => ?_) (fun hb h => ?_)
  · refine req_intro rfl ?_
    exact req_intro rfl h
  · refine rqn_intro 2 ?_
    refine ex_both h fun y2 h => ?_
    refine rqn_intro 9 ?_
    refine ex_both h fun y3 h => ?_
    refine rqn_intro 9 ?_
    refine ex_both h fun y4 h => ?_
    refine rqn_intro 9 ?_
    refine br_both h (fun hb h => ?_) (fun hb h => ?_)
    · refine rqn_intro 5 ?_
      refine br_both h (fun hb h => ?_) (fun hb h => ?_)
      · refine rqn_intro 2 ?_
        refine ex_both h fun y5 h => ?_
        refine rqn_intro 2 ?_
        refine br_both h (fun hb h => ?_) (fun hb h => ?_)
        · refine rqn_intro 3 ?_
          exact req_intro rfl h
        · refine rqn_intro 5 ?_
          exact req_intro rfl h
      · refine rqn_intro 2 ?_
        exact req_intro rfl h
    · refine rqn_intro 4 ?_
      exact req_intro rfl h
theorem curfewlaw08_NextEver_ok : FxOk Tryd.prog gsT 6 (.cons (.agg (.cons (.int .u64) (.cons (.int .u64) (.cons (.int .u64) (.cons (.int .u64) (.one (.int .u64))))))) (.one (.int .i64))) .bool fun x y => curfewlaw08_NextEver_R (x.1.1) (x.1.2.1) (x.1.2.2.1) (x.1.2.2.2.1) (x.1.2.2.2.2) (x.2) y := fx_of (c := q6_cx) (ty_ok rfl) (eq_ok rfl) q6_fns follows_ok (ok := okT) (lp := lpT) (n := 60) lp_ok (enters Tryd.func6 (by kernel_rfl) rfl) (fun y => ⟨_, rfl⟩) fun x y h => q6_run _ _ _ _ _ _ y h
end Go.Proofs.YtiffoefhadgdnaaDoor
