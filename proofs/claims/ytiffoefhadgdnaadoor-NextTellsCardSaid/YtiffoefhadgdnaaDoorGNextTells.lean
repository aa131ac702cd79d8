/- What Go functions come to (printed by gb.py). -/
import Derived.Test.YtiffoefhadgdnaaDoorGy
namespace Go.Proofs.YtiffoefhadgdnaaDoor
open Go Go.B Go.RowKit
set_option linter.unusedVariables false
set_option linter.unusedSimpArgs false
set_option maxRecDepth 100000
attribute [local irreducible] Go.B.acall Go.B.acode
noncomputable def q5_cx : Cx := ⟨tyT, [(5, .body Tryd.f5),
  (12, .fx (.one .none) .bool fun x y => curfewlaw08_wakes_R y),
  (14, .fx (.one (.agg (.cons (.int .u64) (.cons (.int .u64) (.cons (.int .u64) (.cons (.int .u64) (.one (.int .u64)))))))) .bool fun x y => curfewref07_Right_R (x.1) (x.2.1) (x.2.2.1) (x.2.2.2.1) (x.2.2.2.2) y),
  (17, .fx (.cons (.agg (.cons (.int .u64) (.cons (.int .u64) (.cons (.int .u64) (.cons (.int .u64) (.one (.int .u64))))))) (.one (.int .i64))) (.tup (.cons (.int .i64) (.one .bool))) fun x y => next_Next_R (x.1.1) (x.1.2.1) (x.1.2.2.1) (x.1.2.2.2.1) (x.1.2.2.2.2) (x.2) y),
  (18, .fx (.cons (.agg (.cons (.int .u64) (.cons (.int .u64) (.cons (.int .u64) (.cons (.int .u64) (.one (.int .u64))))))) (.one (.int .i64))) (.tup (.cons (.int .i64) (.one .bool))) fun x y => next_Last_R (x.1.1) (x.1.2.1) (x.1.2.2.1) (x.1.2.2.2.1) (x.1.2.2.2.2) (x.2) y),
  (19, .fx (.cons (.agg (.cons (.int .u64) (.cons (.int .u64) (.cons (.int .u64) (.cons (.int .u64) (.one (.int .u64))))))) (.one (.int .i64))) (.tup (.cons (.int .i64) (.one .bool))) fun x y => curfewref08_Next_R (x.1.1) (x.1.2.1) (x.1.2.2.1) (x.1.2.2.2.1) (x.1.2.2.2.2) (x.2) y),
  (20, .fx (.cons (.agg (.cons (.int .u64) (.cons (.int .u64) (.cons (.int .u64) (.cons (.int .u64) (.one (.int .u64))))))) (.one (.int .i64))) (.tup (.cons (.int .i64) (.one .bool))) fun x y => curfewref08_Last_R (x.1.1) (x.1.2.1) (x.1.2.2.1) (x.1.2.2.2.1) (x.1.2.2.2.2) (x.2) y),
  (21, .fx (.one (.agg (.cons (.int .u64) (.cons (.int .u64) (.cons (.int .u64) (.cons (.int .u64) (.one (.int .u64)))))))) .bool fun x y => next_Ever_R (x.1) (x.2.1) (x.2.2.1) (x.2.2.2.1) (x.2.2.2.2) y),
  (22, .fx (.one (.agg (.cons (.int .u64) (.cons (.int .u64) (.cons (.int .u64) (.cons (.int .u64) (.one (.int .u64)))))))) .bool fun x y => curfewref08_Ever_R (x.1) (x.2.1) (x.2.2.1) (x.2.2.2.1) (x.2.2.2.2) y)], gsT, eqT⟩
theorem q5_fns : FnsOk Tryd.prog q5_cx := Fns_assoc ⟨body_ent Tryd.func5 (by kernel_rfl) (by kernel_rfl), curfewlaw08_wakes_ok, curfewref07_Right_ok, next_Next_ok, next_Last_ok, curfewref08_Next_ok, curfewref08_Last_ok, next_Ever_ok, curfewref08_Ever_ok, trivial⟩
noncomputable def q5_0_body : Code := subC [1, 1, 1, 0, 1, 0, 0] (bodyOf Tryd.f5)
abbrev curfewlaw08_NextTells_l0_Z : Type := Int × Int × Int × Int × Int × Bool × List Int × Int × Int
abbrev curfewlaw08_NextTells_l0_Y : Type := (Unit) ⊕ (Unit)
abbrev q5_0_C : Type := Unit
abbrev q5_0_Q : Type := Unit
noncomputable def q5_0_st (z3 : curfewlaw08_NextTells_l0_Z) (z3q : q5_0_Q) (z3c : q5_0_C) : S := ⟨[(2, (V.ptr 0 0)), (5, (vb (z3.2.2.2.2.2.1))), (20, (V.sl (.int .i64) (z3.2.2.2.2.2.2.1) none)), (21, (vi (z3.2.2.2.2.2.2.2.1))), (22, (vi (z3.2.2.2.2.2.2.2.2)))], [(Blk.cells [(vu (z3.1)), (vu (z3.2.1)), (vu (z3.2.2.1)), (vu (z3.2.2.2.1)), (vu (z3.2.2.2.2.1))])], []⟩
def q5_0_K (K : Ret → S → Prop) (z3 : curfewlaw08_NextTells_l0_Z) (z3q : q5_0_Q) (y4 : curfewlaw08_NextTells_l0_Y) : Prop := sume (fun y4 => K (.exit 0) ⟨[(2, (V.ptr 0 0)), (5, (vb (z3.2.2.2.2.2.1)))], [(Blk.cells [(vu (z3.1)), (vu (z3.2.1)), (vu (z3.2.2.1)), (vu (z3.2.2.2.1)), (vu (z3.2.2.2.2.1))])], []⟩) (fun y4 => K .ret ⟨[(4, (vb false))], [(Blk.cells [(vu (z3.1)), (vu (z3.2.1)), (vu (z3.2.2.1)), (vu (z3.2.2.2.1)), (vu (z3.2.2.2.2.1))])], []⟩) y4
def curfewlaw08_NextTells_l0 : Nat → curfewlaw08_NextTells_l0_Z → curfewlaw08_NextTells_l0_Y → Prop
  | 0, _, _ => False
  | k + 1, (z3x0, z3x1, z3x2, z3x3, z3x4, z3x5, z3x6, z3x7, z3x8), y4_ => (br (decide (z3x8 < z3x7)) (req ((decide (0 ≤ z3x8)) && (decide (z3x8 < (((List.length z3x6) : Nat) : Int)))) (br (z3x8 == 4) ((Sum.inl ()) = y4_) (∃ y5 : Int × Bool, (next_Next_R z3x0 z3x1 z3x2 z3x3 z3x4 (List.getD z3x6 (Int.toNat z3x8) 0) y5) ∧ (∃ y6 : Int × Bool, (next_Last_R z3x0 z3x1 z3x2 z3x3 z3x4 (List.getD z3x6 (Int.toNat z3x8) 0) y6) ∧ (br z3x5 (∃ y7 : Int × Bool, (curfewref08_Next_R z3x0 z3x1 z3x2 z3x3 z3x4 (List.getD z3x6 (Int.toNat z3x8) 0) y7) ∧ (∃ y8 : Int × Bool, (curfewref08_Last_R z3x0 z3x1 z3x2 z3x3 z3x4 (List.getD z3x6 (Int.toNat z3x8) 0) y8) ∧ (br ((y5.1) != (y7.1)) ((Sum.inr ()) = y4_) (br (!((y5.2) == (y7.2))) ((Sum.inr ()) = y4_) (br ((y6.1) != (y8.1)) ((Sum.inr ()) = y4_) (br (!((y6.2) == (y8.2))) ((Sum.inr ()) = y4_) (curfewlaw08_NextTells_l0 k (z3x0, z3x1, z3x2, z3x3, z3x4, z3x5, z3x6, z3x7, (IntKind.wrap .i64 (z3x8 + 1))) y4_))))))) (br ((y5.1) != 0) ((Sum.inr ()) = y4_) (br (!((y5.2) == false)) ((Sum.inr ()) = y4_) (br ((y6.1) != 0) ((Sum.inr ()) = y4_) (br (!((y6.2) == false)) ((Sum.inr ()) = y4_) (curfewlaw08_NextTells_l0 k (z3x0, z3x1, z3x2, z3x3, z3x4, z3x5, z3x6, z3x7, (IntKind.wrap .i64 (z3x8 + 1))) y4_)))))))))) ((Sum.inl ()) = y4_))
def curfewlaw08_NextTells_l0_L (z : curfewlaw08_NextTells_l0_Z) (y : curfewlaw08_NextTells_l0_Y) : Prop := ∃ k, curfewlaw08_NextTells_l0 k z y
noncomputable def q5_0_lp : Lp := .auto none q5_0_body (loopG 1 q5_0_st (fun z y => ∃ k, curfewlaw08_NextTells_l0 k z y) q5_0_K)
noncomputable def q5_lp : Nat → FuncId → Nat → Nat → Lp := lpTab [(5, 5, 1, 1, q5_0_lp)]
theorem q5_0_round (n : Nat) (z3x0 : Int) (z3x1 : Int) (z3x2 : Int) (z3x3 : Int) (z3x4 : Int) (z3x5 : Bool) (z3x6 : List Int) (z3x7 : Int) (z3x8 : Int) (K : Ret → S → Prop) (next : S → Prop) : acode q5_cx 5 (acall q5_cx okT q5_lp (n + 1)) (okT 5) (q5_lp (n + 1) 5) none q5_0_body (iterK (wkK 1 K) next) (q5_0_st (z3x0, z3x1, z3x2, z3x3, z3x4, z3x5, z3x6, z3x7, z3x8) () ()) =
    (req true (br (decide (z3x8 < z3x7)) (req true (req ((decide (0 ≤ z3x8)) && (decide (z3x8 < (((List.length z3x6) : Nat) : Int)))) (rqn 5 (br (z3x8 == 4) (wkK 1 K (.exit 0) ⟨[(2, (V.ptr 0 0)), (5, (vb z3x5)), (20, (V.sl (.int .i64) z3x6 none)), (21, (vi z3x7)), (22, (vi z3x8)), (23, (vb (decide (z3x8 < z3x7)))), (6, (vi z3x8)), (7, (vi (List.getD z3x6 (Int.toNat z3x8) 0))), (28, (vb (z3x8 == 4)))], [(Blk.cells [(vu z3x0), (vu z3x1), (vu z3x2), (vu z3x3), (vu z3x4)])], []⟩) (rqn 3 (∃ y5 : Int × Bool, (next_Next_R z3x0 z3x1 z3x2 z3x3 z3x4 (List.getD z3x6 (Int.toNat z3x8) 0) y5) ∧ (rqn 8 (∃ y6 : Int × Bool, (next_Last_R z3x0 z3x1 z3x2 z3x3 z3x4 (List.getD z3x6 (Int.toNat z3x8) 0) y6) ∧ (rqn 10 (br z3x5 (rqn 3 (∃ y7 : Int × Bool, (curfewref08_Next_R z3x0 z3x1 z3x2 z3x3 z3x4 (List.getD z3x6 (Int.toNat z3x8) 0) y7) ∧ (rqn 8 (∃ y8 : Int × Bool, (curfewref08_Last_R z3x0 z3x1 z3x2 z3x3 z3x4 (List.getD z3x6 (Int.toNat z3x8) 0) y8) ∧ (rqn 9 (br ((y5.1) != (y7.1)) (rqn 6 (wkK 1 K .ret ⟨[(2, (V.ptr 0 0)), (5, (vb z3x5)), (20, (V.sl (.int .i64) z3x6 none)), (21, (vi z3x7)), (22, (vi z3x8)), (23, (vb (decide (z3x8 < z3x7)))), (6, (vi z3x8)), (7, (vi (List.getD z3x6 (Int.toNat z3x8) 0))), (28, (vb (z3x8 == 4))), (8, (vi (y5.1))), (9, (vb (y5.2))), (10, (vi (y6.1))), (11, (vb (y6.2))), (12, (vi (y7.1))), (13, (vi (y8.1))), (14, (vb (y7.2))), (15, (vb (y8.2))), (41, (vb z3x5)), (71, (vb true)), (4, (vb false))], [(Blk.cells [(vu z3x0), (vu z3x1), (vu z3x2), (vu z3x3), (vu z3x4)])], []⟩)) (rqn 5 (br (!((y5.2) == (y7.2))) (rqn 4 (wkK 1 K .ret ⟨[(2, (V.ptr 0 0)), (5, (vb z3x5)), (20, (V.sl (.int .i64) z3x6 none)), (21, (vi z3x7)), (22, (vi z3x8)), (23, (vb (decide (z3x8 < z3x7)))), (6, (vi z3x8)), (7, (vi (List.getD z3x6 (Int.toNat z3x8) 0))), (28, (vb (z3x8 == 4))), (8, (vi (y5.1))), (9, (vb (y5.2))), (10, (vi (y6.1))), (11, (vb (y6.2))), (12, (vi (y7.1))), (13, (vi (y8.1))), (14, (vb (y7.2))), (15, (vb (y8.2))), (41, (vb z3x5)), (71, (vb true)), (4, (vb false))], [(Blk.cells [(vu z3x0), (vu z3x1), (vu z3x2), (vu z3x3), (vu z3x4)])], []⟩)) (rqn 5 (br ((y6.1) != (y8.1)) (rqn 2 (wkK 1 K .ret ⟨[(2, (V.ptr 0 0)), (5, (vb z3x5)), (20, (V.sl (.int .i64) z3x6 none)), (21, (vi z3x7)), (22, (vi z3x8)), (23, (vb (decide (z3x8 < z3x7)))), (6, (vi z3x8)), (7, (vi (List.getD z3x6 (Int.toNat z3x8) 0))), (28, (vb (z3x8 == 4))), (8, (vi (y5.1))), (9, (vb (y5.2))), (10, (vi (y6.1))), (11, (vb (y6.2))), (12, (vi (y7.1))), (13, (vi (y8.1))), (14, (vb (y7.2))), (15, (vb (y8.2))), (41, (vb z3x5)), (71, (vb true)), (4, (vb false))], [(Blk.cells [(vu z3x0), (vu z3x1), (vu z3x2), (vu z3x3), (vu z3x4)])], []⟩)) (rqn 4 (br (!((y6.2) == (y8.2))) (req true (wkK 1 K .ret ⟨[(2, (V.ptr 0 0)), (5, (vb z3x5)), (20, (V.sl (.int .i64) z3x6 none)), (21, (vi z3x7)), (22, (vi z3x8)), (23, (vb (decide (z3x8 < z3x7)))), (6, (vi z3x8)), (7, (vi (List.getD z3x6 (Int.toNat z3x8) 0))), (28, (vb (z3x8 == 4))), (8, (vi (y5.1))), (9, (vb (y5.2))), (10, (vi (y6.1))), (11, (vb (y6.2))), (12, (vi (y7.1))), (13, (vi (y8.1))), (14, (vb (y7.2))), (15, (vb (y8.2))), (41, (vb z3x5)), (71, (vb (!((y6.2) == (y8.2))))), (4, (vb false))], [(Blk.cells [(vu z3x0), (vu z3x1), (vu z3x2), (vu z3x3), (vu z3x4)])], []⟩)) (rqn 2 (next ⟨[(2, (V.ptr 0 0)), (5, (vb z3x5)), (20, (V.sl (.int .i64) z3x6 none)), (21, (vi z3x7)), (22, (vi (wI (z3x8 + 1)))), (23, (vb (decide (z3x8 < z3x7)))), (6, (vi z3x8)), (7, (vi (List.getD z3x6 (Int.toNat z3x8) 0))), (28, (vb (z3x8 == 4))), (8, (vi (y5.1))), (9, (vb (y5.2))), (10, (vi (y6.1))), (11, (vb (y6.2))), (12, (vi (y7.1))), (13, (vi (y8.1))), (14, (vb (y7.2))), (15, (vb (y8.2))), (41, (vb z3x5)), (71, (vb (!((y6.2) == (y8.2)))))], [(Blk.cells [(vu z3x0), (vu z3x1), (vu z3x2), (vu z3x3), (vu z3x4)])], []⟩)))))))))))))) (rqn 4 (br ((y5.1) != 0) (rqn 6 (wkK 1 K .ret ⟨[(2, (V.ptr 0 0)), (5, (vb z3x5)), (20, (V.sl (.int .i64) z3x6 none)), (21, (vi z3x7)), (22, (vi z3x8)), (23, (vb (decide (z3x8 < z3x7)))), (6, (vi z3x8)), (7, (vi (List.getD z3x6 (Int.toNat z3x8) 0))), (28, (vb (z3x8 == 4))), (8, (vi (y5.1))), (9, (vb (y5.2))), (10, (vi (y6.1))), (11, (vb (y6.2))), (12, (vi 0)), (13, (vi 0)), (14, (vb false)), (15, (vb false)), (41, (vb z3x5)), (71, (vb true)), (4, (vb false))], [(Blk.cells [(vu z3x0), (vu z3x1), (vu z3x2), (vu z3x3), (vu z3x4)])], []⟩)) (rqn 5 (br (!((y5.2) == false)) (rqn 4 (wkK 1 K .ret ⟨[(2, (V.ptr 0 0)), (5, (vb z3x5)), (20, (V.sl (.int .i64) z3x6 none)), (21, (vi z3x7)), (22, (vi z3x8)), (23, (vb (decide (z3x8 < z3x7)))), (6, (vi z3x8)), (7, (vi (List.getD z3x6 (Int.toNat z3x8) 0))), (28, (vb (z3x8 == 4))), (8, (vi (y5.1))), (9, (vb (y5.2))), (10, (vi (y6.1))), (11, (vb (y6.2))), (12, (vi 0)), (13, (vi 0)), (14, (vb false)), (15, (vb false)), (41, (vb z3x5)), (71, (vb true)), (4, (vb false))], [(Blk.cells [(vu z3x0), (vu z3x1), (vu z3x2), (vu z3x3), (vu z3x4)])], []⟩)) (rqn 5 (br ((y6.1) != 0) (rqn 2 (wkK 1 K .ret ⟨[(2, (V.ptr 0 0)), (5, (vb z3x5)), (20, (V.sl (.int .i64) z3x6 none)), (21, (vi z3x7)), (22, (vi z3x8)), (23, (vb (decide (z3x8 < z3x7)))), (6, (vi z3x8)), (7, (vi (List.getD z3x6 (Int.toNat z3x8) 0))), (28, (vb (z3x8 == 4))), (8, (vi (y5.1))), (9, (vb (y5.2))), (10, (vi (y6.1))), (11, (vb (y6.2))), (12, (vi 0)), (13, (vi 0)), (14, (vb false)), (15, (vb false)), (41, (vb z3x5)), (71, (vb true)), (4, (vb false))], [(Blk.cells [(vu z3x0), (vu z3x1), (vu z3x2), (vu z3x3), (vu z3x4)])], []⟩)) (rqn 4 (br (!((y6.2) == false)) (req true (wkK 1 K .ret ⟨[(2, (V.ptr 0 0)), (5, (vb z3x5)), (20, (V.sl (.int .i64) z3x6 none)), (21, (vi z3x7)), (22, (vi z3x8)), (23, (vb (decide (z3x8 < z3x7)))), (6, (vi z3x8)), (7, (vi (List.getD z3x6 (Int.toNat z3x8) 0))), (28, (vb (z3x8 == 4))), (8, (vi (y5.1))), (9, (vb (y5.2))), (10, (vi (y6.1))), (11, (vb (y6.2))), (12, (vi 0)), (13, (vi 0)), (14, (vb false)), (15, (vb false)), (41, (vb z3x5)), (71, (vb (!((y6.2) == false)))), (4, (vb false))], [(Blk.cells [(vu z3x0), (vu z3x1), (vu z3x2), (vu z3x3), (vu z3x4)])], []⟩)) (rqn 2 (next ⟨[(2, (V.ptr 0 0)), (5, (vb z3x5)), (20, (V.sl (.int .i64) z3x6 none)), (21, (vi z3x7)), (22, (vi (wI (z3x8 + 1)))), (23, (vb (decide (z3x8 < z3x7)))), (6, (vi z3x8)), (7, (vi (List.getD z3x6 (Int.toNat z3x8) 0))), (28, (vb (z3x8 == 4))), (8, (vi (y5.1))), (9, (vb (y5.2))), (10, (vi (y6.1))), (11, (vb (y6.2))), (12, (vi 0)), (13, (vi 0)), (14, (vb false)), (15, (vb false)), (41, (vb z3x5)), (71, (vb (!((y6.2) == false))))], [(Blk.cells [(vu z3x0), (vu z3x1), (vu z3x2), (vu z3x3), (vu z3x4)])], []⟩)))))))))))))))))))) (wkK 1 K (.exit 0) ⟨[(2, (V.ptr 0 0)), (5, (vb z3x5)), (20, (V.sl (.int .i64) z3x6 none)), (21, (vi z3x7)), (22, (vi z3x8)), (23, (vb (decide (z3x8 < z3x7))))], [(Blk.cells [(vu z3x0), (vu z3x1), (vu z3x2), (vu z3x3), (vu z3x4)])], []⟩))) := by kernel_rfl
theorem q5_0_ok (n : Nat) : Owed q5_cx okT 5 q5_lp (n + 1) q5_0_lp := loop_owed (fun z y h => h) fun k zz qq cc y4_ K h hK next hnext => by
  obtain ⟨z3x0, z3x1, z3x2, z3x3, z3x4, z3x5, z3x6, z3x7, z3x8⟩ := zz
  refine cast (q5_0_round n z3x0 z3x1 z3x2 z3x3 z3x4 z3x5 z3x6 z3x7 z3x8 K next).symm ?_
  simp only [curfewlaw08_NextTells_l0] at h
  refine req_intro rfl ?_
  refine br_both h (fun hb h => ?_) (fun hb h => ?_)
  · refine req_intro rfl ?_
    obtain ⟨q, h⟩ := req_of h
    refine req_intro (band (band_l q) (band_r q)) ?_
    refine rqn_intro 5 ?_
    refine br_both h (fun hb h => ?_) (fun hb h => ?_)
    · subst h
      refine ⟨_, ?_, hK⟩
      exact wk_of (Or.inr ⟨⟨Or.inl rfl, Or.inl rfl, trivial⟩, ⟨Or.inl rfl, trivial⟩, rfl, rfl, rfl⟩)
    · refine rqn_intro 3 ?_
      refine ex_both h fun y5 h => ?_
      refine rqn_intro 8 ?_
      refine ex_both h fun y6 h => ?_
      refine rqn_intro 10 ?_
      refine br_both h (fun hb h => ?_) (fun hb h => ?_)
      · refine rqn_intro 3 ?_
        refine ex_both h fun y7 h => ?_
        refine rqn_intro 8 ?_
        refine ex_both h fun y8 h => ?_
        refine rqn_intro 9 ?_
        refine br_both h (fun hb h => ?_) (fun hb h => ?_)
        · refine rqn_intro 6 ?_
          subst h
          refine ⟨_, ?_, hK⟩
          exact wk_of (Or.inr ⟨⟨Or.inl rfl, trivial⟩, ⟨Or.inl rfl, trivial⟩, rfl, rfl, rfl⟩)
        · refine rqn_intro 5 ?_
          refine br_both h (fun hb h => ?_) (fun hb h => ?_)
          · refine rqn_intro 4 ?_
            subst h
            refine ⟨_, ?_, hK⟩
            exact wk_of (Or.inr ⟨⟨Or.inl rfl, trivial⟩, ⟨Or.inl rfl, trivial⟩, rfl, rfl, rfl⟩)
          · refine rqn_intro 5 ?_
            refine br_both h (fun hb h => ?_) (fun hb h => ?_)
            · refine rqn_intro 2 ?_
              subst h
              refine ⟨_, ?_, hK⟩
              exact wk_of (Or.inr ⟨⟨Or.inl rfl, trivial⟩, ⟨Or.inl rfl, trivial⟩, rfl, rfl, rfl⟩)
            · refine rqn_intro 4 ?_
              refine br_both h (fun hb h => ?_) (fun hb h => ?_)
              · refine req_intro rfl ?_
                subst h
                refine ⟨_, ?_, hK⟩
                exact wk_of (Or.inr ⟨⟨Or.inl rfl, trivial⟩, ⟨Or.inl rfl, trivial⟩, rfl, rfl, rfl⟩)
              · refine rqn_intro 2 ?_
                exact hnext (z3x0, z3x1, z3x2, z3x3, z3x4, z3x5, z3x6, z3x7, (wI (z3x8 + 1))) _ h hK ⟨(), wk_of (Or.inr ⟨⟨Or.inl rfl, Or.inl rfl, Or.inl rfl, Or.inl rfl, Or.inl rfl, trivial⟩, ⟨Or.inl rfl, trivial⟩, rfl, rfl, rfl⟩)⟩
      · refine rqn_intro 4 ?_
        refine br_both h (fun hb h => ?_) (fun hb h => ?_)
        · refine rqn_intro 6 ?_
          subst h
          refine ⟨_, ?_, hK⟩
          exact wk_of (Or.inr ⟨⟨Or.inl rfl, trivial⟩, ⟨Or.inl rfl, trivial⟩, rfl, rfl, rfl⟩)
        · refine rqn_intro 5 ?_
          refine br_both h (fun hb h => ?_) (fun hb h => ?_)
          · refine rqn_intro 4 ?_
            subst h
            refine ⟨_, ?_, hK⟩
            exact wk_of (Or.inr ⟨⟨Or.inl rfl, trivial⟩, ⟨Or.inl rfl, trivial⟩, rfl, rfl, rfl⟩)
          · refine rqn_intro 5 ?_
            refine br_both h (fun hb h => ?_) (fun hb h => ?_)
            · refine rqn_intro 2 ?_
              subst h
              refine ⟨_, ?_, hK⟩
              exact wk_of (Or.inr ⟨⟨Or.inl rfl, trivial⟩, ⟨Or.inl rfl, trivial⟩, rfl, rfl, rfl⟩)
            · refine rqn_intro 4 ?_
              refine br_both h (fun hb h => ?_) (fun hb h => ?_)
              · refine req_intro rfl ?_
                subst h
                refine ⟨_, ?_, hK⟩
                exact wk_of (Or.inr ⟨⟨Or.inl rfl, trivial⟩, ⟨Or.inl rfl, trivial⟩, rfl, rfl, rfl⟩)
              · refine rqn_intro 2 ?_
                exact hnext (z3x0, z3x1, z3x2, z3x3, z3x4, z3x5, z3x6, z3x7, (wI (z3x8 + 1))) _ h hK ⟨(), wk_of (Or.inr ⟨⟨Or.inl rfl, Or.inl rfl, Or.inl rfl, Or.inl rfl, Or.inl rfl, trivial⟩, ⟨Or.inl rfl, trivial⟩, rfl, rfl, rfl⟩)⟩
  · subst h
    refine ⟨_, ?_, hK⟩
    exact wk_of (Or.inr ⟨⟨Or.inl rfl, Or.inl rfl, trivial⟩, ⟨Or.inl rfl, trivial⟩, rfl, rfl, rfl⟩)
theorem q5_lpok : LpOk q5_cx okT q5_lp := LpOk_tab ⟨q5_0_ok, trivial⟩
def curfewlaw08_NextTells_R (a0 : Int) (a1 : Int) (a2 : Int) (a3 : Int) (a4 : Int) (a5 : List Int) (y : Bool) : Prop :=
  (∃ y1 : Bool, (curfewlaw08_wakes_R y1) ∧ (br (!y1) (false = y) (∃ y2 : Bool, (curfewref07_Right_R a0 a1 a2 a3 a4 y2) ∧ (∃ y10 : curfewlaw08_NextTells_l0_Y, curfewlaw08_NextTells_l0_L (a0, a1, a2, a3, a4, y2, a5, (((List.length a5) : Nat) : Int), 0) y10 ∧ sume (fun y10 => (∃ y11 : Bool, (next_Ever_R a0 a1 a2 a3 a4 y11) ∧ (br y2 (∃ y12 : Bool, (curfewref08_Ever_R a0 a1 a2 a3 a4 y12) ∧ ((y11 == y12) = y)) ((y11 == false) = y)))) (fun y10 => (false = y)) y10))))
theorem q5_tree (a0 : Int) (a1 : Int) (a2 : Int) (a3 : Int) (a4 : Int) (a5 : List Int) (y : Bool) : acall q5_cx okT q5_lp 60 (.fn 5 [] []) [(V.agg [(V.int .u64 a0), (V.int .u64 a1), (V.int .u64 a2), (V.int .u64 a3), (V.int .u64 a4)]), (V.sl (.int .i64) a5 none)] [] (leafK .bool y) =
    (rqn 2 (∃ y1 : Bool, (curfewlaw08_wakes_R y1) ∧ (req true (br (!y1) (req true (req true (false = y))) (rqn 2 (∃ y2 : Bool, (curfewref07_Right_R a0 a1 a2 a3 a4 y2) ∧ (rqn 4 (((none : Option Nat) = (none : Option Nat)) ∧ (q5_0_body = q5_0_body) ∧ ∃ z9 : curfewlaw08_NextTells_l0_Z, ∃ z9q : q5_0_Q, ∃ y10 : curfewlaw08_NextTells_l0_Y, (1 = 1) ∧ (∃ zc : q5_0_C, wk 1 ⟨[(0, (V.agg [(vu a0), (vu a1), (vu a2), (vu a3), (vu a4)])), (1, (V.sl (.int .i64) a5 none)), (2, (V.ptr 0 0)), (4, (vb false)), (17, (vb (!y1))), (5, (vb y2)), (20, (V.sl (.int .i64) a5 none)), (21, (vi (((List.length a5) : Nat) : Int))), (22, (vi 0))], [(Blk.cells [(vu a0), (vu a1), (vu a2), (vu a3), (vu a4)])], []⟩ (q5_0_st z9 z9q zc)) ∧ (∃ k, curfewlaw08_NextTells_l0 k z9 y10) ∧ sume (fun y10 => (rqn 2 (∃ y11 : Bool, (next_Ever_R (z9.1) (z9.2.1) (z9.2.2.1) (z9.2.2.2.1) (z9.2.2.2.2.1) y11) ∧ (rqn 2 (br (z9.2.2.2.2.2.1) (rqn 2 (∃ y12 : Bool, (curfewref08_Ever_R (z9.1) (z9.2.1) (z9.2.2.1) (z9.2.2.2.1) (z9.2.2.2.2.1) y12) ∧ (rqn 3 (req true ((y11 == y12) = y))))) (rqn 3 (req true ((y11 == false) = y)))))))) (fun y10 => (req true (false = y))) y10)))))))) := by kernel_rfl
theorem q5_run (a0 : Int) (a1 : Int) (a2 : Int) (a3 : Int) (a4 : Int) (a5 : List Int) (y : Bool) (h : curfewlaw08_NextTells_R a0 a1 a2 a3 a4 a5 y) : acall q5_cx okT q5_lp 60 (.fn 5 [] []) [(V.agg [(V.int .u64 a0), (V.int .u64 a1), (V.int .u64 a2), (V.int .u64 a3), (V.int .u64 a4)]), (V.sl (.int .i64) a5 none)] [] (leafK .bool y) := by
  refine cast (q5_tree a0 a1 a2 a3 a4 a5 y).symm ?_
  unfold curfewlaw08_NextTells_R at h
  refine rqn_intro 2 ?_
  refine ex_both h fun y1 h => ?_
  refine req_intro rfl ?_
  refine br_both h (fun hb h => ?_) (fun hb h => ?_)
  · refine req_intro rfl ?_
    exact req_intro rfl h
  · refine rqn_intro 2 ?_
    refine ex_both h fun y2 h => ?_
    refine rqn_intro 4 ?_
    obtain ⟨y10, ry10, h⟩ := h
    refine ⟨rfl, rfl, (a0, a1, a2, a3, a4, y2, a5, (((List.length a5) : Nat) : Int), 0), (), y10, rfl, ⟨(), wk_of (Or.inr ⟨⟨Or.inl rfl, Or.inl rfl, Or.inl rfl, Or.inl rfl, Or.inl rfl, trivial⟩, ⟨Or.inl rfl, trivial⟩, rfl, rfl, rfl⟩)⟩, ry10, ?_⟩
    refine sume_both h (fun y10 h => ?_) (fun y10 h => ?_)
    · refine rqn_intro 2 ?_
      refine ex_both h fun y11 h => ?_
      refine rqn_intro 2 ?_
      refine br_both h (fun hb h => ?_) (fun hb h => ?_)
      · refine rqn_intro 2 ?_
        refine ex_both h fun y12 h => ?_
        refine rqn_intro 3 ?_
        exact req_intro rfl h
      · refine rqn_intro 3 ?_
        exact req_intro rfl h
    · exact req_intro rfl h
theorem curfewlaw08_NextTells_ok : FxOk Tryd.prog gsT 5 (.cons (.agg (.cons (.int .u64) (.cons (.int .u64) (.cons (.int .u64) (.cons (.int .u64) (.one (.int .u64))))))) (.one (.sl (.int .i64)))) .bool fun x y => curfewlaw08_NextTells_R (x.1.1) (x.1.2.1) (x.1.2.2.1) (x.1.2.2.2.1) (x.1.2.2.2.2) (x.2) y := fx_of (c := q5_cx) (ty_ok rfl) (eq_ok rfl) q5_fns follows_ok (ok := okT) (lp := q5_lp) (n := 60) q5_lpok (enters Tryd.func5 (by kernel_rfl) rfl) (fun y => ⟨_, rfl⟩) fun x y h => q5_run _ _ _ _ _ _ y h
end Go.Proofs.YtiffoefhadgdnaaDoor
