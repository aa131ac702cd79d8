/- What Go functions come to (printed by gb.py). -/
import Derived.Test.YtiffoefhadgdnaaDoorGx
namespace Go.Proofs.YtiffoefhadgdnaaDoor
open Go Go.B Go.RowKit
set_option linter.unusedVariables false
set_option linter.unusedSimpArgs false
set_option maxRecDepth 100000
attribute [local irreducible] Go.B.acall Go.B.acode
noncomputable def q37_cx : Cx := ⟨tyT, [(37, .body Tryd.f37)], gsT, eqT⟩
theorem q37_fns : FnsOk Tryd.prog q37_cx := Fns_assoc ⟨body_ent Tryd.func37 (by kernel_rfl) (by kernel_rfl), trivial⟩
def curfewref07_Fields_R (a0 : Int) (a1 : Int) (a2 : Int) (a3 : Int) (a4 : Int) (y : Int × Int × Int × Int × Int) : Prop :=
  ((a0, (a1, (a2, (a3, a4)))) = y)
theorem q37_tree (a0 : Int) (a1 : Int) (a2 : Int) (a3 : Int) (a4 : Int) (y : Int × Int × Int × Int × Int) : acall q37_cx okT lpT 60 (.fn 37 [] []) [(V.agg [(V.int .u64 a0), (V.int .u64 a1), (V.int .u64 a2), (V.int .u64 a3), (V.int .u64 a4)])] [] (leafK (.agg (.cons (.int .u64) (.cons (.int .u64) (.cons (.int .u64) (.cons (.int .u64) (.one (.int .u64))))))) y) =
    (rqn 11 (req true ((a0, (a1, (a2, (a3, a4)))) = y))) := by kernel_rfl
theorem q37_run (a0 : Int) (a1 : Int) (a2 : Int) (a3 : Int) (a4 : Int) (y : Int × Int × Int × Int × Int) (h : curfewref07_Fields_R a0 a1 a2 a3 a4 y) : acall q37_cx okT lpT 60 (.fn 37 [] []) [(V.agg [(V.int .u64 a0), (V.int .u64 a1), (V.int .u64 a2), (V.int .u64 a3), (V.int .u64 a4)])] [] (leafK (.agg (.cons (.int .u64) (.cons (.int .u64) (.cons (.int .u64) (.cons (.int .u64) (.one (.int .u64))))))) y) := by
  refine cast (q37_tree a0 a1 a2 a3 a4 y).symm ?_
  unfold curfewref07_Fields_R at h
  refine rqn_intro 11 ?_
  exact req_intro rfl h
theorem curfewref07_Fields_ok : FxOk Tryd.prog gsT 37 (.one (.agg (.cons (.int .u64) (.cons (.int .u64) (.cons (.int .u64) (.cons (.int .u64) (.one (.int .u64)))))))) (.agg (.cons (.int .u64) (.cons (.int .u64) (.cons (.int .u64) (.cons (.int .u64) (.one (.int .u64))))))) fun x y => curfewref07_Fields_R (x.1) (x.2.1) (x.2.2.1) (x.2.2.2.1) (x.2.2.2.2) y := fx_of (c := q37_cx) (ty_ok rfl) (eq_ok rfl) q37_fns follows_ok (ok := okT) (lp := lpT) (n := 60) lp_ok (enters Tryd.func37 (by kernel_rfl) rfl) (fun y => ⟨_, rfl⟩) fun x y h => q37_run _ _ _ _ _ y h
noncomputable def q102_cx : Cx := ⟨tyT, [(102, .body Tryd.f102)], gsT, eqT⟩
theorem q102_fns : FnsOk Tryd.prog q102_cx := Fns_assoc ⟨body_ent Tryd.func102 (by kernel_rfl) (by kernel_rfl), trivial⟩
noncomputable def q102_0_body : Code := subC [1, 1, 0, 1, 0, 0] (bodyOf Tryd.f102)
abbrev curfewref01_power_l0_Z : Type := Int × Int × Int
abbrev curfewref01_power_l0_Y : Type := Int
abbrev q102_0_C : Type := Unit
abbrev q102_0_Q : Type := Unit
noncomputable def q102_0_st (z1 : curfewref01_power_l0_Z) (z1q : q102_0_Q) (z1c : q102_0_C) : S := ⟨[(3, (vu (z1.1))), (4, (vi (z1.2.1))), (5, (vi (z1.2.2)))], [], []⟩
def q102_0_K (K : Ret → S → Prop) (z1 : curfewref01_power_l0_Z) (z1q : q102_0_Q) (y2 : curfewref01_power_l0_Y) : Prop := K (.exit 0) ⟨[(3, (vu y2))], [], []⟩
def curfewref01_power_l0 : Nat → curfewref01_power_l0_Z → curfewref01_power_l0_Y → Prop
  | 0, _, _ => False
  | k + 1, (z1x0, z1x1, z1x2), y2_ => (br (decide (z1x2 < z1x1)) (curfewref01_power_l0 k ((IntKind.wrap .u64 (z1x0 * 2)), z1x1, (IntKind.wrap .i64 (z1x2 + 1))) y2_) (z1x0 = y2_))
def curfewref01_power_l0_L (z : curfewref01_power_l0_Z) (y : curfewref01_power_l0_Y) : Prop := ∃ k, curfewref01_power_l0 k z y
noncomputable def q102_0_lp : Lp := .auto none q102_0_body (loopG 0 q102_0_st (fun z y => ∃ k, curfewref01_power_l0 k z y) q102_0_K)
noncomputable def q102_lp : Nat → FuncId → Nat → Nat → Lp := lpTab [(102, 3, 0, 0, q102_0_lp)]
theorem q102_0_round (n : Nat) (z1x0 : Int) (z1x1 : Int) (z1x2 : Int) (K : Ret → S → Prop) (next : S → Prop) : acode q102_cx 102 (acall q102_cx okT q102_lp (n + 0)) (okT 102) (q102_lp (n + 0) 102) none q102_0_body (iterK (wkK 0 K) next) (q102_0_st (z1x0, z1x1, z1x2) () ()) =
    (req true (br (decide (z1x2 < z1x1)) (rqn 5 (next ⟨[(3, (vu (IntKind.wrap .u64 (z1x0 * 2)))), (4, (vi z1x1)), (5, (vi (wI (z1x2 + 1)))), (6, (vb (decide (z1x2 < z1x1))))], [], []⟩)) (wkK 0 K (.exit 0) ⟨[(3, (vu z1x0)), (4, (vi z1x1)), (5, (vi z1x2)), (6, (vb (decide (z1x2 < z1x1))))], [], []⟩))) := by kernel_rfl
theorem q102_0_ok (n : Nat) : Owed q102_cx okT 102 q102_lp (n + 0) q102_0_lp := loop_owed (fun z y h => h) fun k zz qq cc y2_ K h hK next hnext => by
  obtain ⟨z1x0, z1x1, z1x2⟩ := zz
  refine cast (q102_0_round n z1x0 z1x1 z1x2 K next).symm ?_
  simp only [curfewref01_power_l0] at h
  refine req_intro rfl ?_
  refine br_both h (fun hb h => ?_) (fun hb h => ?_)
  · refine rqn_intro 5 ?_
    exact hnext ((IntKind.wrap .u64 (z1x0 * 2)), z1x1, (wI (z1x2 + 1))) _ h hK ⟨(), wk_of (Or.inr ⟨⟨Or.inl rfl, Or.inl rfl, Or.inl rfl, trivial⟩, trivial, rfl, rfl, rfl⟩)⟩
  · subst h
    refine ⟨_, ?_, hK⟩
    exact wk_of (Or.inr ⟨⟨Or.inl rfl, trivial⟩, trivial, rfl, rfl, rfl⟩)
theorem q102_lpok : LpOk q102_cx okT q102_lp := LpOk_tab ⟨q102_0_ok, trivial⟩
def curfewref01_power_R (a0 : Int) (y : Int) : Prop :=
  (∃ y4 : curfewref01_power_l0_Y, curfewref01_power_l0_L (1, a0, 0) y4 ∧ (y4 = y))
theorem q102_tree (a0 : Int) (y : Int) : acall q102_cx okT q102_lp 60 (.fn 102 [] []) [(V.int .i64 a0)] [] (leafK (.int .u64) y) =
    (rqn 4 (((none : Option Nat) = (none : Option Nat)) ∧ (q102_0_body = q102_0_body) ∧ ∃ z3 : curfewref01_power_l0_Z, ∃ z3q : q102_0_Q, ∃ y4 : curfewref01_power_l0_Y, (0 = 0) ∧ (∃ zc : q102_0_C, wk 0 ⟨[(0, (vi a0)), (2, (vu 0)), (3, (vu 1)), (4, (vi a0)), (5, (vi 0))], [], []⟩ (q102_0_st z3 z3q zc)) ∧ (∃ k, curfewref01_power_l0 k z3 y4) ∧ (rqn 2 (req true (y4 = y))))) := by kernel_rfl
theorem q102_run (a0 : Int) (y : Int) (h : curfewref01_power_R a0 y) : acall q102_cx okT q102_lp 60 (.fn 102 [] []) [(V.int .i64 a0)] [] (leafK (.int .u64) y) := by
  refine cast (q102_tree a0 y).symm ?_
  unfold curfewref01_power_R at h
  refine rqn_intro 4 ?_
  obtain ⟨y4, ry4, h⟩ := h
  refine ⟨rfl, rfl, (1, a0, 0), (), y4, rfl, ⟨(), wk_of (Or.inr ⟨⟨Or.inl rfl, Or.inl rfl, Or.inl rfl, trivial⟩, trivial, rfl, rfl, rfl⟩)⟩, ry4, ?_⟩
  refine rqn_intro 2 ?_
  exact req_intro rfl h
theorem curfewref01_power_ok : FxOk Tryd.prog gsT 102 (.one (.int .i64)) (.int .u64) fun x y => curfewref01_power_R x y := fx_of (c := q102_cx) (ty_ok rfl) (eq_ok rfl) q102_fns follows_ok (ok := okT) (lp := q102_lp) (n := 60) q102_lpok (enters Tryd.func102 (by kernel_rfl) rfl) (fun y => ⟨_, rfl⟩) fun x y h => q102_run _ y h
noncomputable def q74_cx : Cx := ⟨tyT, [(74, .body Tryd.f74),
  (102, .fx (.one (.int .i64)) (.int .u64) fun x y => curfewref01_power_R x y)], gsT, eqT⟩
theorem q74_fns : FnsOk Tryd.prog q74_cx := Fns_assoc ⟨body_ent Tryd.func74 (by kernel_rfl) (by kernel_rfl), curfewref01_power_ok, trivial⟩
def curfewref01_Has_R (a0 : Int) (a1 : Int) (y : Bool) : Prop :=
  (br (decide (a1 ≥ 0)) (br (decide (a1 ≤ 63)) (∃ y1 : Int, (curfewref01_power_R a1 y1) ∧ (req (!(y1 == 0)) (((Int.tmod (IntKind.wrap .u64 (Int.tdiv a0 y1)) 2) == 1) = y))) (false = y)) (false = y))
theorem q74_tree (a0 : Int) (a1 : Int) (y : Bool) : acall q74_cx okT lpT 60 (.fn 74 [] []) [(V.int .u64 a0), (V.int .i64 a1)] [] (leafK .bool y) =
    (rqn 4 (br (decide (a1 ≥ 0)) (rqn 4 (br (decide (a1 ≤ 63)) (rqn 3 (∃ y1 : Int, (curfewref01_power_R a1 y1) ∧ (req (!(y1 == 0)) (rqn 4 (req true (((Int.tmod (IntKind.wrap .u64 (Int.tdiv a0 y1)) 2) == 1) = y)))))) (rqn 2 (req true (false = y))))) (rqn 4 (req true (false = y))))) := by kernel_rfl
theorem q74_run (a0 : Int) (a1 : Int) (y : Bool) (h : curfewref01_Has_R a0 a1 y) : acall q74_cx okT lpT 60 (.fn 74 [] []) [(V.int .u64 a0), (V.int .i64 a1)] [] (leafK .bool y) := by
  refine cast (q74_tree a0 a1 y).symm ?_
  unfold curfewref01_Has_R at h
  refine rqn_intro 4 ?_
  refine br_both h (fun hb h => ?_) (fun hb h => ?_)
  · refine rqn_intro 4 ?_
    refine br_both h (fun hb h => ?_) (fun hb h => ?_)
    · refine rqn_intro 3 ?_
      refine ex_both h fun y1 h => ?_
      obtain ⟨q, h⟩ := req_of h
      refine req_intro q ?_
      refine rqn_intro 4 ?_
      exact req_intro rfl h
    · refine rqn_intro 2 ?_
      exact req_intro rfl h
  · refine rqn_intro 4 ?_
    exact req_intro rfl h
theorem curfewref01_Has_ok : FxOk Tryd.prog gsT 74 (.cons (.int .u64) (.one (.int .i64))) .bool fun x y => curfewref01_Has_R (x.1) (x.2) y := fx_of (c := q74_cx) (ty_ok rfl) (eq_ok rfl) q74_fns follows_ok (ok := okT) (lp := lpT) (n := 60) lp_ok (enters Tryd.func74 (by kernel_rfl) rfl) (fun y => ⟨_, rfl⟩) fun x y h => q74_run _ _ y h
noncomputable def q73_cx : Cx := ⟨tyT, [(73, .body Tryd.f73),
  (74, .fx (.cons (.int .u64) (.one (.int .i64))) .bool fun x y => curfewref01_Has_R (x.1) (x.2) y)], gsT, eqT⟩
theorem q73_fns : FnsOk Tryd.prog q73_cx := Fns_assoc ⟨body_ent Tryd.func73 (by kernel_rfl) (by kernel_rfl), curfewref01_Has_ok, trivial⟩
noncomputable def q73_0_body : Code := subC [1, 1, 0, 1, 0, 0] (bodyOf Tryd.f73)
abbrev curfewref01_All_l0_Z : Type := List Int × Int × Int
abbrev curfewref01_All_l0_Y : Type := List Int
abbrev q73_0_C : Type := Nat
abbrev q73_0_Q : Type := Unit
noncomputable def q73_0_st (z1 : curfewref01_All_l0_Z) (z1q : q73_0_Q) (z1c : q73_0_C) : S := ⟨[(0, (vu (z1.2.1))), (3, (V.row 0 1 (List.length (z1.1)) z1c)), (5, (vi (z1.2.2)))], [(Blk.row (.int .i64) (z1.1) 3 z1c)], []⟩
def q73_0_K (K : Ret → S → Prop) (z1 : curfewref01_All_l0_Z) (z1q : q73_0_Q) (y2 : curfewref01_All_l0_Y) : Prop := (∀ y2c : Nat, K (.exit 0) ⟨[(3, (V.row 0 1 (List.length y2) y2c))], [(Blk.row (.int .i64) y2 3 y2c)], []⟩)
def curfewref01_All_l0 : Nat → curfewref01_All_l0_Z → curfewref01_All_l0_Y → Prop
  | 0, _, _ => False
  | k + 1, (z1x0, z1x1, z1x2), y2_ => (br (decide (z1x2 < 64)) (∃ y3 : Bool, (curfewref01_Has_R z1x1 z1x2 y3) ∧ (br y3 (req (Nat.ble ((List.length (z1x0 ++ [z1x2])) * 9) 140737488355328) (curfewref01_All_l0 k ((z1x0 ++ [z1x2]), z1x1, (IntKind.wrap .i64 (z1x2 + 1))) y2_)) (curfewref01_All_l0 k (z1x0, z1x1, (IntKind.wrap .i64 (z1x2 + 1))) y2_))) (z1x0 = y2_))
def curfewref01_All_l0_L (z : curfewref01_All_l0_Z) (y : curfewref01_All_l0_Y) : Prop := ∃ k, curfewref01_All_l0 k z y
noncomputable def q73_0_lp : Lp := .auto none q73_0_body (loopG 0 q73_0_st (fun z y => ∃ k, curfewref01_All_l0 k z y) q73_0_K)
noncomputable def q73_lp : Nat → FuncId → Nat → Nat → Lp := lpTab [(73, 3, 0, 1, q73_0_lp)]
theorem q73_0_round (n : Nat) (z1x0 : List Int) (z1x1 : Int) (z1x2 : Int) (z1k0 : Nat) (K : Ret → S → Prop) (next : S → Prop) : acode q73_cx 73 (acall q73_cx okT q73_lp (n + 1)) (okT 73) (q73_lp (n + 1) 73) none q73_0_body (iterK (wkK 0 K) next) (q73_0_st (z1x0, z1x1, z1x2) () z1k0) =
    (req true (br (decide (z1x2 < 64)) (rqn 5 (∃ y3 : Bool, (curfewref01_Has_R z1x1 z1x2 y3) ∧ (br y3 (rqn 2 (req (((((true && true) && true) && (Nat.beq (List.length z1x0) (List.length z1x0))) && (Nat.beq z1k0 z1k0)) && (Nat.ble ((List.length (z1x0 ++ [z1x2])) * 9) 140737488355328)) (∀ c4 : Nat, (rqn 3 (next ⟨[(0, (vu z1x1)), (3, (V.row 2 1 (List.length (z1x0 ++ [z1x2])) c4)), (5, (vi (wI (z1x2 + 1)))), (6, (vb (decide (z1x2 < 64)))), (4, (vi z1x2)), (10, (vb y3))], [Blk.dead, (Blk.cells [(vi z1x2)]), (Blk.row (.int .i64) (z1x0 ++ [z1x2]) 3 c4)], []⟩))))) (rqn 2 (next ⟨[(0, (vu z1x1)), (3, (V.row 0 1 (List.length z1x0) z1k0)), (5, (vi (wI (z1x2 + 1)))), (6, (vb (decide (z1x2 < 64)))), (4, (vi z1x2)), (10, (vb y3))], [(Blk.row (.int .i64) z1x0 3 z1k0)], []⟩))))) (wkK 0 K (.exit 0) ⟨[(0, (vu z1x1)), (3, (V.row 0 1 (List.length z1x0) z1k0)), (5, (vi z1x2)), (6, (vb (decide (z1x2 < 64))))], [(Blk.row (.int .i64) z1x0 3 z1k0)], []⟩))) := by kernel_rfl
theorem q73_0_ok (n : Nat) : Owed q73_cx okT 73 q73_lp (n + 1) q73_0_lp := loop_owed (fun z y h => h) fun k zz qq z1k0 y2_ K h hK next hnext => by
  obtain ⟨z1x0, z1x1, z1x2⟩ := zz
  refine cast (q73_0_round n z1x0 z1x1 z1x2 z1k0 K next).symm ?_
  simp only [curfewref01_All_l0] at h
  refine req_intro rfl ?_
  refine br_both h (fun hb h => ?_) (fun hb h => ?_)
  · refine rqn_intro 5 ?_
    refine ex_both h fun y3 h => ?_
    refine br_both h (fun hb h => ?_) (fun hb h => ?_)
    · refine rqn_intro 2 ?_
      obtain ⟨q, h⟩ := req_of h
      refine req_intro (band (band (band (band (band rfl rfl) rfl) (Nat.beq_refl _)) (Nat.beq_refl _)) q) ?_
      intro c4
      refine rqn_intro 3 ?_
      exact hnext ((z1x0 ++ [z1x2]), z1x1, (wI (z1x2 + 1))) _ h hK ⟨c4, ⟨_, ⟨[(0, (vu z1x1)), (3, (V.row 0 1 (List.length (z1x0 ++ [z1x2])) c4)), (5, (vi (wI (z1x2 + 1))))], [(Blk.row (.int .i64) (z1x0 ++ [z1x2]) 3 c4)], []⟩, ⟨[], rfl, rfl⟩, Or.inr ⟨[2], rfl, rfl, rfl, rfl, rfl, ⟨rfl, rfl, rfl, trivial⟩, ⟨Or.inr rfl, trivial⟩, rfl, rfl⟩, Or.inr ⟨⟨Or.inl rfl, Or.inl rfl, Or.inl rfl, trivial⟩, ⟨Or.inl rfl, trivial⟩, rfl, rfl, rfl⟩⟩⟩
    · refine rqn_intro 2 ?_
      exact hnext (z1x0, z1x1, (wI (z1x2 + 1))) _ h hK ⟨z1k0, wk_of (Or.inr ⟨⟨Or.inl rfl, Or.inl rfl, Or.inl rfl, trivial⟩, ⟨Or.inl rfl, trivial⟩, rfl, rfl, rfl⟩)⟩
  · subst h
    refine ⟨_, ?_, hK z1k0⟩
    exact wk_of (Or.inr ⟨⟨Or.inl rfl, trivial⟩, ⟨Or.inl rfl, trivial⟩, rfl, rfl, rfl⟩)
theorem q73_lpok : LpOk q73_cx okT q73_lp := LpOk_tab ⟨q73_0_ok, trivial⟩
def curfewref01_All_R (a0 : Int) (y : List Int) : Prop :=
  (∃ y6 : curfewref01_All_l0_Y, curfewref01_All_l0_L ([], a0, 0) y6 ∧ (y6 = y))
theorem q73_tree (a0 : Int) (y : List Int) : acall q73_cx okT q73_lp 60 (.fn 73 [] []) [(V.int .u64 a0)] [] (leafK (.nw (.int .i64) 3) y) =
    (rqn 3 (((none : Option Nat) = (none : Option Nat)) ∧ (q73_0_body = q73_0_body) ∧ ∃ z5 : curfewref01_All_l0_Z, ∃ z5q : q73_0_Q, ∃ y6 : curfewref01_All_l0_Y, (0 = 0) ∧ (∃ zc : q73_0_C, wk 0 ⟨[(0, (vu a0)), (2, (V.old (.slice none 0 0))), (3, (V.old (.slice none 0 0))), (5, (vi 0))], [], []⟩ (q73_0_st z5 z5q zc)) ∧ (∃ k, curfewref01_All_l0 k z5 y6) ∧ (∀ y6c : Nat, (rqn 2 (req ((Nat.beq (List.length y6) (List.length y6)) && (Nat.beq y6c y6c)) (y6 = y)))))) := by kernel_rfl
theorem q73_run (a0 : Int) (y : List Int) (h : curfewref01_All_R a0 y) : acall q73_cx okT q73_lp 60 (.fn 73 [] []) [(V.int .u64 a0)] [] (leafK (.nw (.int .i64) 3) y) := by
  refine cast (q73_tree a0 y).symm ?_
  unfold curfewref01_All_R at h
  refine rqn_intro 3 ?_
  obtain ⟨y6, ry6, h⟩ := h
  refine ⟨rfl, rfl, ([], a0, 0), (), y6, rfl, ⟨0, wk_of (Or.inr ⟨⟨Or.inl rfl, Or.inr (Or.inr (Or.inl ⟨rfl, Or.inl ⟨_, _, rfl⟩⟩)), Or.inl rfl, trivial⟩, ⟨⟨_, _, rfl⟩, trivial⟩, rfl, rfl, rfl⟩)⟩, ry6, ?_⟩
  intro y6c
  refine rqn_intro 2 ?_
  exact req_intro (band (Nat.beq_refl _) (Nat.beq_refl _)) h
theorem curfewref01_All_ok : FxOk Tryd.prog gsT 73 (.one (.int .u64)) (.nw (.int .i64) 3) fun x y => curfewref01_All_R x y := fx_of (c := q73_cx) (ty_ok rfl) (eq_ok rfl) q73_fns follows_ok (ok := okT) (lp := q73_lp) (n := 60) q73_lpok (enters Tryd.func73 (by kernel_rfl) rfl) (fun y => ⟨_, rfl⟩) fun x y h => q73_run _ y h
noncomputable def q126_cx : Cx := ⟨tyT, [(74, .fx (.cons (.int .u64) (.one (.int .i64))) .bool fun x y => curfewref01_Has_R (x.1) (x.2) y),
  (102, .fx (.one (.int .i64)) (.int .u64) fun x y => curfewref01_power_R x y),
  (126, .body Tryd.f126)], gsT, eqT⟩
theorem q126_fns : FnsOk Tryd.prog q126_cx := Fns_assoc ⟨curfewref01_Has_ok, curfewref01_power_ok, body_ent Tryd.func126 (by kernel_rfl) (by kernel_rfl), trivial⟩
noncomputable def q126_0_body : Code := subC [1, 1, 0, 1, 0, 0] (bodyOf Tryd.f126)
abbrev curfewref01_Of_l0_Z : Type := Int × List Int × Int × Int
abbrev curfewref01_Of_l0_Y : Type := (Unit) ⊕ (Int)
abbrev q126_0_C : Type := Unit
abbrev q126_0_Q : Type := Unit
noncomputable def q126_0_st (z1 : curfewref01_Of_l0_Z) (z1q : q126_0_Q) (z1c : q126_0_C) : S := ⟨[(4, (vu (z1.1))), (7, (V.sl (.int .i64) (z1.2.1) none)), (8, (vi (z1.2.2.1))), (9, (vi (z1.2.2.2)))], [], []⟩
def q126_0_K (K : Ret → S → Prop) (z1 : curfewref01_Of_l0_Z) (z1q : q126_0_Q) (y2 : curfewref01_Of_l0_Y) : Prop := sume (fun y2 => K .ret ⟨[(2, (vu 0)), (3, (vb false))], [], []⟩) (fun y2 => K (.exit 0) ⟨[(4, (vu y2))], [], []⟩) y2
def curfewref01_Of_l0 : Nat → curfewref01_Of_l0_Z → curfewref01_Of_l0_Y → Prop
  | 0, _, _ => False
  | k + 1, (z1x0, z1x1, z1x2, z1x3), y2_ => (br (decide (z1x3 < z1x2)) (req ((decide (0 ≤ z1x3)) && (decide (z1x3 < (((List.length z1x1) : Nat) : Int)))) (br (decide ((List.getD z1x1 (Int.toNat z1x3) 0) < 0)) ((Sum.inl ()) = y2_) (br (decide ((List.getD z1x1 (Int.toNat z1x3) 0) > 63)) ((Sum.inl ()) = y2_) (∃ y3 : Bool, (curfewref01_Has_R z1x0 (List.getD z1x1 (Int.toNat z1x3) 0) y3) ∧ (br (!y3) (∃ y4 : Int, (curfewref01_power_R (List.getD z1x1 (Int.toNat z1x3) 0) y4) ∧ (curfewref01_Of_l0 k ((IntKind.wrap .u64 (z1x0 + y4)), z1x1, z1x2, (IntKind.wrap .i64 (z1x3 + 1))) y2_)) (curfewref01_Of_l0 k (z1x0, z1x1, z1x2, (IntKind.wrap .i64 (z1x3 + 1))) y2_)))))) ((Sum.inr z1x0) = y2_))
def curfewref01_Of_l0_L (z : curfewref01_Of_l0_Z) (y : curfewref01_Of_l0_Y) : Prop := ∃ k, curfewref01_Of_l0 k z y
noncomputable def q126_0_lp : Lp := .auto none q126_0_body (loopG 0 q126_0_st (fun z y => ∃ k, curfewref01_Of_l0 k z y) q126_0_K)
noncomputable def q126_lp : Nat → FuncId → Nat → Nat → Lp := lpTab [(126, 3, 0, 1, q126_0_lp)]
theorem q126_0_round (n : Nat) (z1x0 : Int) (z1x1 : List Int) (z1x2 : Int) (z1x3 : Int) (K : Ret → S → Prop) (next : S → Prop) : acode q126_cx 126 (acall q126_cx okT q126_lp (n + 1)) (okT 126) (q126_lp (n + 1) 126) none q126_0_body (iterK (wkK 0 K) next) (q126_0_st (z1x0, z1x1, z1x2, z1x3) () ()) =
    (req true (br (decide (z1x3 < z1x2)) (req ((decide (0 ≤ z1x3)) && (decide (z1x3 < (((List.length z1x1) : Nat) : Int)))) (rqn 5 (br (decide ((List.getD z1x1 (Int.toNat z1x3) 0) < 0)) (rqn 3 (wkK 0 K .ret ⟨[(4, (vu z1x0)), (7, (V.sl (.int .i64) z1x1 none)), (8, (vi z1x2)), (9, (vi z1x3)), (10, (vb (decide (z1x3 < z1x2)))), (6, (vi (List.getD z1x1 (Int.toNat z1x3) 0))), (18, (vb true)), (2, (vu 0)), (3, (vb false))], [], []⟩)) (rqn 3 (br (decide ((List.getD z1x1 (Int.toNat z1x3) 0) > 63)) (rqn 2 (wkK 0 K .ret ⟨[(4, (vu z1x0)), (7, (V.sl (.int .i64) z1x1 none)), (8, (vi z1x2)), (9, (vi z1x3)), (10, (vb (decide (z1x3 < z1x2)))), (6, (vi (List.getD z1x1 (Int.toNat z1x3) 0))), (18, (vb (decide ((List.getD z1x1 (Int.toNat z1x3) 0) > 63)))), (2, (vu 0)), (3, (vb false))], [], []⟩)) (rqn 3 (∃ y3 : Bool, (curfewref01_Has_R z1x0 (List.getD z1x1 (Int.toNat z1x3) 0) y3) ∧ (req true (br (!y3) (rqn 3 (∃ y4 : Int, (curfewref01_power_R (List.getD z1x1 (Int.toNat z1x3) 0) y4) ∧ (rqn 4 (next ⟨[(4, (vu (IntKind.wrap .u64 (z1x0 + y4)))), (7, (V.sl (.int .i64) z1x1 none)), (8, (vi z1x2)), (9, (vi (wI (z1x3 + 1)))), (10, (vb (decide (z1x3 < z1x2)))), (6, (vi (List.getD z1x1 (Int.toNat z1x3) 0))), (18, (vb (decide ((List.getD z1x1 (Int.toNat z1x3) 0) > 63)))), (22, (vb (!y3)))], [], []⟩)))) (rqn 2 (next ⟨[(4, (vu z1x0)), (7, (V.sl (.int .i64) z1x1 none)), (8, (vi z1x2)), (9, (vi (wI (z1x3 + 1)))), (10, (vb (decide (z1x3 < z1x2)))), (6, (vi (List.getD z1x1 (Int.toNat z1x3) 0))), (18, (vb (decide ((List.getD z1x1 (Int.toNat z1x3) 0) > 63)))), (22, (vb (!y3)))], [], []⟩))))))))))) (wkK 0 K (.exit 0) ⟨[(4, (vu z1x0)), (7, (V.sl (.int .i64) z1x1 none)), (8, (vi z1x2)), (9, (vi z1x3)), (10, (vb (decide (z1x3 < z1x2))))], [], []⟩))) := by kernel_rfl
theorem q126_0_ok (n : Nat) : Owed q126_cx okT 126 q126_lp (n + 1) q126_0_lp := loop_owed (fun z y h => h) fun k zz qq cc y2_ K h hK next hnext => by
  obtain ⟨z1x0, z1x1, z1x2, z1x3⟩ := zz
  refine cast (q126_0_round n z1x0 z1x1 z1x2 z1x3 K next).symm ?_
  simp only [curfewref01_Of_l0] at h
  refine req_intro rfl ?_
  refine br_both h (fun hb h => ?_) (fun hb h => ?_)
  · obtain ⟨q, h⟩ := req_of h
    refine req_intro (band (band_l q) (band_r q)) ?_
    refine rqn_intro 5 ?_
    refine br_both h (fun hb h => ?_) (fun hb h => ?_)
    · refine rqn_intro 3 ?_
      subst h
      refine ⟨_, ?_, hK⟩
      exact wk_of (Or.inr ⟨⟨Or.inl rfl, Or.inl rfl, trivial⟩, trivial, rfl, rfl, rfl⟩)
    · refine rqn_intro 3 ?_
      refine br_both h (fun hb h => ?_) (fun hb h => ?_)
      · refine rqn_intro 2 ?_
        subst h
        refine ⟨_, ?_, hK⟩
        exact wk_of (Or.inr ⟨⟨Or.inl rfl, Or.inl rfl, trivial⟩, trivial, rfl, rfl, rfl⟩)
      · refine rqn_intro 3 ?_
        refine ex_both h fun y3 h => ?_
        refine req_intro rfl ?_
        refine br_both h (fun hb h => ?_) (fun hb h => ?_)
        · refine rqn_intro 3 ?_
          refine ex_both h fun y4 h => ?_
          refine rqn_intro 4 ?_
          exact hnext ((IntKind.wrap .u64 (z1x0 + y4)), z1x1, z1x2, (wI (z1x3 + 1))) _ h hK ⟨(), wk_of (Or.inr ⟨⟨Or.inl rfl, Or.inl rfl, Or.inl rfl, Or.inl rfl, trivial⟩, trivial, rfl, rfl, rfl⟩)⟩
        · refine rqn_intro 2 ?_
          exact hnext (z1x0, z1x1, z1x2, (wI (z1x3 + 1))) _ h hK ⟨(), wk_of (Or.inr ⟨⟨Or.inl rfl, Or.inl rfl, Or.inl rfl, Or.inl rfl, trivial⟩, trivial, rfl, rfl, rfl⟩)⟩
  · subst h
    refine ⟨_, ?_, hK⟩
    exact wk_of (Or.inr ⟨⟨Or.inl rfl, trivial⟩, trivial, rfl, rfl, rfl⟩)
theorem q126_lpok : LpOk q126_cx okT q126_lp := LpOk_tab ⟨q126_0_ok, trivial⟩
def curfewref01_Of_R (a0 : List Int) (y : Int × Bool) : Prop :=
  (∃ y6 : curfewref01_Of_l0_Y, curfewref01_Of_l0_L (0, a0, (((List.length a0) : Nat) : Int), 0) y6 ∧ sume (fun y6 => ((0, false) = y)) (fun y6 => ((y6, true) = y)) y6)
theorem q126_tree (a0 : List Int) (y : Int × Bool) : acall q126_cx okT q126_lp 60 (.fn 126 [] []) [(V.sl (.int .i64) a0 none)] [] (leafK (.tup (.cons (.int .u64) (.one .bool))) y) =
    (rqn 6 (((none : Option Nat) = (none : Option Nat)) ∧ (q126_0_body = q126_0_body) ∧ ∃ z5 : curfewref01_Of_l0_Z, ∃ z5q : q126_0_Q, ∃ y6 : curfewref01_Of_l0_Y, (0 = 0) ∧ (∃ zc : q126_0_C, wk 0 ⟨[(0, (V.sl (.int .i64) a0 none)), (2, (vu 0)), (3, (vb false)), (4, (vu 0)), (7, (V.sl (.int .i64) a0 none)), (8, (vi (((List.length a0) : Nat) : Int))), (9, (vi 0))], [], []⟩ (q126_0_st z5 z5q zc)) ∧ (∃ k, curfewref01_Of_l0 k z5 y6) ∧ sume (fun y6 => (req true ((0, false) = y))) (fun y6 => (rqn 3 (req true ((y6, true) = y)))) y6)) := by kernel_rfl
theorem q126_run (a0 : List Int) (y : Int × Bool) (h : curfewref01_Of_R a0 y) : acall q126_cx okT q126_lp 60 (.fn 126 [] []) [(V.sl (.int .i64) a0 none)] [] (leafK (.tup (.cons (.int .u64) (.one .bool))) y) := by
  refine cast (q126_tree a0 y).symm ?_
  unfold curfewref01_Of_R at h
  refine rqn_intro 6 ?_
  obtain ⟨y6, ry6, h⟩ := h
  refine ⟨rfl, rfl, (0, a0, (((List.length a0) : Nat) : Int), 0), (), y6, rfl, ⟨(), wk_of (Or.inr ⟨⟨Or.inl rfl, Or.inl rfl, Or.inl rfl, Or.inl rfl, trivial⟩, trivial, rfl, rfl, rfl⟩)⟩, ry6, ?_⟩
  refine sume_both h (fun y6 h => ?_) (fun y6 h => ?_)
  · exact req_intro rfl h
  · refine rqn_intro 3 ?_
    exact req_intro rfl h
theorem curfewref01_Of_ok : FxOk Tryd.prog gsT 126 (.one (.sl (.int .i64))) (.tup (.cons (.int .u64) (.one .bool))) fun x y => curfewref01_Of_R x y := fx_of (c := q126_cx) (ty_ok rfl) (eq_ok rfl) q126_fns follows_ok (ok := okT) (lp := q126_lp) (n := 60) q126_lpok (enters Tryd.func126 (by kernel_rfl) rfl) (fun y => ⟨_, rfl⟩) fun x y h => q126_run _ y h
noncomputable def q103_cx : Cx := ⟨tyT, [(103, .body Tryd.f103),
  (126, .fx (.one (.sl (.int .i64))) (.tup (.cons (.int .u64) (.one .bool))) fun x y => curfewref01_Of_R x y)], gsT, eqT⟩
theorem q103_fns : FnsOk Tryd.prog q103_cx := Fns_assoc ⟨body_ent Tryd.func103 (by kernel_rfl) (by kernel_rfl), curfewref01_Of_ok, trivial⟩
noncomputable def q103_0_body : Code := subC [1, 1, 1, 0, 1, 0, 0] (bodyOf Tryd.f103)
abbrev curfewref01_Span_l0_Z : Type := List Int × Int × Int × Int × Int
abbrev curfewref01_Span_l0_Y : Type := List Int
abbrev q103_0_C : Type := Nat
abbrev q103_0_Q : Type := Unit
noncomputable def q103_0_st (z1 : curfewref01_Span_l0_Z) (z1q : q103_0_Q) (z1c : q103_0_C) : S := ⟨[(0, (vi (z1.2.1))), (1, (vi (z1.2.2.1))), (2, (vi (z1.2.2.2.1))), (8, (V.row 0 1 (List.length (z1.1)) z1c)), (9, (vi (z1.2.2.2.2)))], [(Blk.row (.int .i64) (z1.1) 3 z1c)], []⟩
def q103_0_K (K : Ret → S → Prop) (z1 : curfewref01_Span_l0_Z) (z1q : q103_0_Q) (y2 : curfewref01_Span_l0_Y) : Prop := (∀ y2c : Nat, K (.exit 0) ⟨[(8, (V.row 0 1 (List.length y2) y2c))], [(Blk.row (.int .i64) y2 3 y2c)], []⟩)
def curfewref01_Span_l0 : Nat → curfewref01_Span_l0_Z → curfewref01_Span_l0_Y → Prop
  | 0, _, _ => False
  | k + 1, (z1x0, z1x1, z1x2, z1x3, z1x4), y2_ => (br (decide (z1x4 ≤ z1x2)) (req (!(z1x3 == 0)) (br ((Int.tmod (IntKind.wrap .i64 (z1x4 - z1x1)) z1x3) == 0) (req (Nat.ble ((List.length (z1x0 ++ [z1x4])) * 9) 140737488355328) (curfewref01_Span_l0 k ((z1x0 ++ [z1x4]), z1x1, z1x2, z1x3, (IntKind.wrap .i64 (z1x4 + 1))) y2_)) (curfewref01_Span_l0 k (z1x0, z1x1, z1x2, z1x3, (IntKind.wrap .i64 (z1x4 + 1))) y2_))) (z1x0 = y2_))
def curfewref01_Span_l0_L (z : curfewref01_Span_l0_Z) (y : curfewref01_Span_l0_Y) : Prop := ∃ k, curfewref01_Span_l0 k z y
noncomputable def q103_0_lp : Lp := .auto none q103_0_body (loopG 0 q103_0_st (fun z y => ∃ k, curfewref01_Span_l0 k z y) q103_0_K)
noncomputable def q103_lp : Nat → FuncId → Nat → Nat → Lp := lpTab [(103, 5, 0, 0, q103_0_lp)]
theorem q103_0_round (n : Nat) (z1x0 : List Int) (z1x1 : Int) (z1x2 : Int) (z1x3 : Int) (z1x4 : Int) (z1k0 : Nat) (K : Ret → S → Prop) (next : S → Prop) : acode q103_cx 103 (acall q103_cx okT q103_lp (n + 0)) (okT 103) (q103_lp (n + 0) 103) none q103_0_body (iterK (wkK 0 K) next) (q103_0_st (z1x0, z1x1, z1x2, z1x3, z1x4) () z1k0) =
    (rqn 3 (br (decide (z1x4 ≤ z1x2)) (rqn 4 (req (!(z1x3 == 0)) (req true (br ((Int.tmod (wI (z1x4 - z1x1)) z1x3) == 0) (rqn 2 (req (((((true && true) && true) && (Nat.beq (List.length z1x0) (List.length z1x0))) && (Nat.beq z1k0 z1k0)) && (Nat.ble ((List.length (z1x0 ++ [z1x4])) * 9) 140737488355328)) (∀ c3 : Nat, (rqn 4 (next ⟨[(0, (vi z1x1)), (1, (vi z1x2)), (2, (vi z1x3)), (8, (V.row 2 1 (List.length (z1x0 ++ [z1x4])) c3)), (9, (vi (wI (z1x4 + 1)))), (28, (vb (decide (z1x4 ≤ z1x2)))), (36, (vb ((Int.tmod (wI (z1x4 - z1x1)) z1x3) == 0)))], [Blk.dead, (Blk.cells [(vi z1x4)]), (Blk.row (.int .i64) (z1x0 ++ [z1x4]) 3 c3)], []⟩))))) (rqn 3 (next ⟨[(0, (vi z1x1)), (1, (vi z1x2)), (2, (vi z1x3)), (8, (V.row 0 1 (List.length z1x0) z1k0)), (9, (vi (wI (z1x4 + 1)))), (28, (vb (decide (z1x4 ≤ z1x2)))), (36, (vb ((Int.tmod (wI (z1x4 - z1x1)) z1x3) == 0)))], [(Blk.row (.int .i64) z1x0 3 z1k0)], []⟩)))))) (wkK 0 K (.exit 0) ⟨[(0, (vi z1x1)), (1, (vi z1x2)), (2, (vi z1x3)), (8, (V.row 0 1 (List.length z1x0) z1k0)), (9, (vi z1x4)), (28, (vb (decide (z1x4 ≤ z1x2))))], [(Blk.row (.int .i64) z1x0 3 z1k0)], []⟩))) := by kernel_rfl
theorem q103_0_ok (n : Nat) : Owed q103_cx okT 103 q103_lp (n + 0) q103_0_lp := loop_owed (fun z y h => h) fun k zz qq z1k0 y2_ K h hK next hnext => by
  obtain ⟨z1x0, z1x1, z1x2, z1x3, z1x4⟩ := zz
  refine cast (q103_0_round n z1x0 z1x1 z1x2 z1x3 z1x4 z1k0 K next).symm ?_
  simp only [curfewref01_Span_l0] at h
  refine rqn_intro 3 ?_
  refine br_both h (fun hb h => ?_) (fun hb h => ?_)
  · refine rqn_intro 4 ?_
    obtain ⟨q, h⟩ := req_of h
    refine req_intro q ?_
    refine req_intro rfl ?_
    refine br_both h (fun hb h => ?_) (fun hb h => ?_)
    · refine rqn_intro 2 ?_
      obtain ⟨q, h⟩ := req_of h
      refine req_intro (band (band (band (band (band rfl rfl) rfl) (Nat.beq_refl _)) (Nat.beq_refl _)) q) ?_
      intro c3
      refine rqn_intro 4 ?_
      exact hnext ((z1x0 ++ [z1x4]), z1x1, z1x2, z1x3, (wI (z1x4 + 1))) _ h hK ⟨c3, ⟨_, ⟨[(0, (vi z1x1)), (1, (vi z1x2)), (2, (vi z1x3)), (8, (V.row 0 1 (List.length (z1x0 ++ [z1x4])) c3)), (9, (vi (wI (z1x4 + 1))))], [(Blk.row (.int .i64) (z1x0 ++ [z1x4]) 3 c3)], []⟩, ⟨[], rfl, rfl⟩, Or.inr ⟨[2], rfl, rfl, rfl, rfl, rfl, ⟨rfl, rfl, rfl, rfl, rfl, trivial⟩, ⟨Or.inr rfl, trivial⟩, rfl, rfl⟩, Or.inr ⟨⟨Or.inl rfl, Or.inl rfl, Or.inl rfl, Or.inl rfl, Or.inl rfl, trivial⟩, ⟨Or.inl rfl, trivial⟩, rfl, rfl, rfl⟩⟩⟩
    · refine rqn_intro 3 ?_
      exact hnext (z1x0, z1x1, z1x2, z1x3, (wI (z1x4 + 1))) _ h hK ⟨z1k0, wk_of (Or.inr ⟨⟨Or.inl rfl, Or.inl rfl, Or.inl rfl, Or.inl rfl, Or.inl rfl, trivial⟩, ⟨Or.inl rfl, trivial⟩, rfl, rfl, rfl⟩)⟩
  · subst h
    refine ⟨_, ?_, hK z1k0⟩
    exact wk_of (Or.inr ⟨⟨Or.inl rfl, trivial⟩, ⟨Or.inl rfl, trivial⟩, rfl, rfl, rfl⟩)
theorem q103_lpok : LpOk q103_cx okT q103_lp := LpOk_tab ⟨q103_0_ok, trivial⟩
def curfewref01_Span_R (a0 : Int) (a1 : Int) (a2 : Int) (y : Int × Bool) : Prop :=
  (br (decide (a0 < 0)) ((0, false) = y) (br (decide (a1 > 63)) ((0, false) = y) (br (decide (a0 > a1)) ((0, false) = y) (br (decide (a2 < 1)) ((0, false) = y) (∃ y5 : curfewref01_Span_l0_Y, curfewref01_Span_l0_L ([], a0, a1, a2, a0) y5 ∧ (∃ y6 : Int × Bool, (curfewref01_Of_R y5 y6) ∧ (y6 = y)))))))
theorem q103_tree (a0 : Int) (a1 : Int) (a2 : Int) (y : Int × Bool) : acall q103_cx okT q103_lp 60 (.fn 103 [] []) [(V.int .i64 a0), (V.int .i64 a1), (V.int .i64 a2)] [] (leafK (.tup (.cons (.int .u64) (.one .bool))) y) =
    (rqn 5 (br (decide (a0 < 0)) (rqn 7 (req true ((0, false) = y))) (rqn 4 (br (decide (a1 > 63)) (rqn 5 (req true ((0, false) = y))) (rqn 5 (br (decide (a0 > a1)) (rqn 3 (req true ((0, false) = y))) (rqn 3 (br (decide (a2 < 1)) (rqn 2 (req true ((0, false) = y))) (rqn 3 (((none : Option Nat) = (none : Option Nat)) ∧ (q103_0_body = q103_0_body) ∧ ∃ z4 : curfewref01_Span_l0_Z, ∃ z4q : q103_0_Q, ∃ y5 : curfewref01_Span_l0_Y, (0 = 0) ∧ (∃ zc : q103_0_C, wk 0 ⟨[(0, (vi a0)), (1, (vi a1)), (2, (vi a2)), (6, (vu 0)), (7, (vb false)), (24, (vb (decide (a2 < 1)))), (8, (V.old (.slice none 0 0))), (9, (vi a0))], [], []⟩ (q103_0_st z4 z4q zc)) ∧ (∃ k, curfewref01_Span_l0 k z4 y5) ∧ (∀ y5c : Nat, (req true (req (Nat.beq (List.length y5) (List.length y5)) (∃ y6 : Int × Bool, (curfewref01_Of_R y5 y6) ∧ (rqn 4 (req true (y6 = y))))))))))))))))) := by kernel_rfl
theorem q103_run (a0 : Int) (a1 : Int) (a2 : Int) (y : Int × Bool) (h : curfewref01_Span_R a0 a1 a2 y) : acall q103_cx okT q103_lp 60 (.fn 103 [] []) [(V.int .i64 a0), (V.int .i64 a1), (V.int .i64 a2)] [] (leafK (.tup (.cons (.int .u64) (.one .bool))) y) := by
  refine cast (q103_tree a0 a1 a2 y).symm ?_
  unfold curfewref01_Span_R at h
  refine rqn_intro 5 ?_
  refine br_both h (fun hb h => ?_) (fun hb h => ?_)
  · refine rqn_intro 7 ?_
    exact req_intro rfl h
  · refine rqn_intro 4 ?_
    refine br_both h (fun hb h => ?_) (fun hb h => ?_)
    · refine rqn_intro 5 ?_
      exact req_intro rfl h
    · refine rqn_intro 5 ?_
      refine br_both h (fun hb h => ?_) (fun hb h => ?_)
      · refine rqn_intro 3 ?_
        exact req_intro rfl h
      · refine rqn_intro 3 ?_
        refine br_both h (fun hb h => ?_) (fun hb h => ?_)
        · refine rqn_intro 2 ?_
          exact req_intro rfl h
        · refine rqn_intro 3 ?_
          obtain ⟨y5, ry5, h⟩ := h
          refine ⟨rfl, rfl, ([], a0, a1, a2, a0), (), y5, rfl, ⟨0, wk_of (Or.inr ⟨⟨Or.inl rfl, Or.inl rfl, Or.inl rfl, Or.inr (Or.inr (Or.inl ⟨rfl, Or.inl ⟨_, _, rfl⟩⟩)), Or.inl rfl, trivial⟩, ⟨⟨_, _, rfl⟩, trivial⟩, rfl, rfl, rfl⟩)⟩, ry5, ?_⟩
          intro y5c
          refine req_intro rfl ?_
          refine req_intro (Nat.beq_refl _) ?_
          refine ex_both h fun y6 h => ?_
          refine rqn_intro 4 ?_
          exact req_intro rfl h
theorem curfewref01_Span_ok : FxOk Tryd.prog gsT 103 (.cons (.int .i64) (.cons (.int .i64) (.one (.int .i64)))) (.tup (.cons (.int .u64) (.one .bool))) fun x y => curfewref01_Span_R (x.1) (x.2.1) (x.2.2) y := fx_of (c := q103_cx) (ty_ok rfl) (eq_ok rfl) q103_fns follows_ok (ok := okT) (lp := q103_lp) (n := 60) q103_lpok (enters Tryd.func103 (by kernel_rfl) rfl) (fun y => ⟨_, rfl⟩) fun x y h => q103_run _ _ _ y h
noncomputable def q104_cx : Cx := ⟨tyT, [(104, .body Tryd.f104)], gsT, eqT⟩
theorem q104_fns : FnsOk Tryd.prog q104_cx := Fns_assoc ⟨body_ent Tryd.func104 (by kernel_rfl) (by kernel_rfl), trivial⟩
def curfewref06_Ends_R (a0 : Int) (y : Int × Int) : Prop :=
  (req (((decide (0 ≤ a0)) && (decide (a0 < 5))) && (Nat.ble (((Int.toNat a0) * 2) + 2) 10)) (((List.getD ([0, 59, 0, 23, 1, 31, 1, 12, 0, 6] : List Int) (((Int.toNat a0) * 2) + 0) 0), (List.getD ([0, 59, 0, 23, 1, 31, 1, 12, 0, 6] : List Int) (((Int.toNat a0) * 2) + 1) 0)) = y))
theorem q104_tree (a0 : Int) (y : Int × Int) : acall q104_cx okT lpT 60 (.fn 104 [] []) [(V.int .i64 a0)] [] (leafK (.agg (.cons (.int .i64) (.one (.int .i64)))) y) =
    (rqn 7 (req (((decide (0 ≤ a0)) && (decide (a0 < 5))) && (Nat.ble (((Int.toNat a0) * 2) + 2) 10)) (req true (((List.getD ([0, 59, 0, 23, 1, 31, 1, 12, 0, 6] : List Int) (((Int.toNat a0) * 2) + 0) 0), (List.getD ([0, 59, 0, 23, 1, 31, 1, 12, 0, 6] : List Int) (((Int.toNat a0) * 2) + 1) 0)) = y)))) := by kernel_rfl
theorem q104_run (a0 : Int) (y : Int × Int) (h : curfewref06_Ends_R a0 y) : acall q104_cx okT lpT 60 (.fn 104 [] []) [(V.int .i64 a0)] [] (leafK (.agg (.cons (.int .i64) (.one (.int .i64)))) y) := by
  refine cast (q104_tree a0 y).symm ?_
  unfold curfewref06_Ends_R at h
  refine rqn_intro 7 ?_
  obtain ⟨q, h⟩ := req_of h
  refine req_intro (band (band (band_l (band_l q)) (band_r (band_l q))) (band_r q)) ?_
  exact req_intro rfl h
theorem curfewref06_Ends_ok : FxOk Tryd.prog gsT 104 (.one (.int .i64)) (.agg (.cons (.int .i64) (.one (.int .i64)))) fun x y => curfewref06_Ends_R x y := fx_of (c := q104_cx) (ty_ok rfl) (eq_ok rfl) q104_fns follows_ok (ok := okT) (lp := lpT) (n := 60) lp_ok (enters Tryd.func104 (by kernel_rfl) rfl) (fun y => ⟨_, rfl⟩) fun x y h => q104_run _ y h
noncomputable def q75_cx : Cx := ⟨tyT, [(75, .body Tryd.f75),
  (103, .fx (.cons (.int .i64) (.cons (.int .i64) (.one (.int .i64)))) (.tup (.cons (.int .u64) (.one .bool))) fun x y => curfewref01_Span_R (x.1) (x.2.1) (x.2.2) y),
  (104, .fx (.one (.int .i64)) (.agg (.cons (.int .i64) (.one (.int .i64)))) fun x y => curfewref06_Ends_R x y)], gsT, eqT⟩
theorem q75_fns : FnsOk Tryd.prog q75_cx := Fns_assoc ⟨body_ent Tryd.func75 (by kernel_rfl) (by kernel_rfl), curfewref01_Span_ok, curfewref06_Ends_ok, trivial⟩
def curfewref06_Whole_R (a0 : Int) (y : Int) : Prop :=
  (∃ y1 : Int × Int, (curfewref06_Ends_R a0 y1) ∧ (∃ y2 : Int × Int, (curfewref06_Ends_R a0 y2) ∧ (∃ y3 : Int × Bool, (curfewref01_Span_R (y1.1) (y2.2) 1 y3) ∧ ((y3.1) = y))))
theorem q75_tree (a0 : Int) (y : Int) : acall q75_cx okT lpT 60 (.fn 75 [] []) [(V.int .i64 a0)] [] (leafK (.int .u64) y) =
    (rqn 3 (∃ y1 : Int × Int, (curfewref06_Ends_R a0 y1) ∧ (rqn 3 (∃ y2 : Int × Int, (curfewref06_Ends_R a0 y2) ∧ (rqn 2 (∃ y3 : Int × Bool, (curfewref01_Span_R (y1.1) (y2.2) 1 y3) ∧ (rqn 7 (req true ((y3.1) = y))))))))) := by kernel_rfl
theorem q75_run (a0 : Int) (y : Int) (h : curfewref06_Whole_R a0 y) : acall q75_cx okT lpT 60 (.fn 75 [] []) [(V.int .i64 a0)] [] (leafK (.int .u64) y) := by
  refine cast (q75_tree a0 y).symm ?_
  unfold curfewref06_Whole_R at h
  refine rqn_intro 3 ?_
  refine ex_both h fun y1 h => ?_
  refine rqn_intro 3 ?_
  refine ex_both h fun y2 h => ?_
  refine rqn_intro 2 ?_
  refine ex_both h fun y3 h => ?_
  refine rqn_intro 7 ?_
  exact req_intro rfl h
theorem curfewref06_Whole_ok : FxOk Tryd.prog gsT 75 (.one (.int .i64)) (.int .u64) fun x y => curfewref06_Whole_R x y := fx_of (c := q75_cx) (ty_ok rfl) (eq_ok rfl) q75_fns follows_ok (ok := okT) (lp := lpT) (n := 60) lp_ok (enters Tryd.func75 (by kernel_rfl) rfl) (fun y => ⟨_, rfl⟩) fun x y h => q75_run _ y h
noncomputable def q38_cx : Cx := ⟨tyT, [(38, .body Tryd.f38),
  (73, .fx (.one (.int .u64)) (.nw (.int .i64) 3) fun x y => curfewref01_All_R x y),
  (74, .fx (.cons (.int .u64) (.one (.int .i64))) .bool fun x y => curfewref01_Has_R (x.1) (x.2) y),
  (75, .fx (.one (.int .i64)) (.int .u64) fun x y => curfewref06_Whole_R x y)], gsT, eqT⟩
theorem q38_fns : FnsOk Tryd.prog q38_cx := Fns_assoc ⟨body_ent Tryd.func38 (by kernel_rfl) (by kernel_rfl), curfewref01_All_ok, curfewref01_Has_ok, curfewref06_Whole_ok, trivial⟩
noncomputable def q38_0_body : Code := subC [1, 0, 1, 0, 0] (bodyOf Tryd.f38)
abbrev curfewref06_Right_l0_Z : Type := List Int × Int × Int × Int × Int
abbrev curfewref06_Right_l0_Y : Type := (Unit) ⊕ (Unit)
abbrev q38_0_C : Type := Unit
abbrev q38_0_Q : Type := Nat
noncomputable def q38_0_st (z3 : curfewref06_Right_l0_Z) (z3q : q38_0_Q) (z3c : q38_0_C) : S := ⟨[(0, (vi (z3.2.1))), (1, (vu (z3.2.2.1))), (8, (V.row 0 1 (List.length (z3.1)) z3q)), (9, (vi (z3.2.2.2.1))), (10, (vi (z3.2.2.2.2)))], [(Blk.row (.int .i64) (z3.1) 3 z3q)], []⟩
def q38_0_K (K : Ret → S → Prop) (z3 : curfewref06_Right_l0_Z) (z3q : q38_0_Q) (y4 : curfewref06_Right_l0_Y) : Prop := sume (fun y4 => K .ret ⟨[(4, (vb false))], [(Blk.row (.int .i64) (z3.1) 3 z3q)], []⟩) (fun y4 => K (.exit 0) ⟨[(1, (vu (z3.2.2.1)))], [(Blk.row (.int .i64) (z3.1) 3 z3q)], []⟩) y4
def curfewref06_Right_l0 : Nat → curfewref06_Right_l0_Z → curfewref06_Right_l0_Y → Prop
  | 0, _, _ => False
  | k + 1, (z3x0, z3x1, z3x2, z3x3, z3x4), y4_ => (br (decide (z3x4 < z3x3)) (req ((decide (0 ≤ z3x4)) && (decide (z3x4 < (((List.length z3x0) : Nat) : Int)))) (req (Nat.blt (Int.toNat z3x4) (List.length z3x0)) (∃ y5 : Int, (curfewref06_Whole_R z3x1 y5) ∧ (∃ y6 : Bool, (curfewref01_Has_R y5 (List.getD z3x0 (Int.toNat z3x4) 0) y6) ∧ (br (!y6) ((Sum.inl ()) = y4_) (curfewref06_Right_l0 k (z3x0, z3x1, z3x2, z3x3, (IntKind.wrap .i64 (z3x4 + 1))) y4_)))))) ((Sum.inr ()) = y4_))
def curfewref06_Right_l0_L (z : curfewref06_Right_l0_Z) (y : curfewref06_Right_l0_Y) : Prop := ∃ k, curfewref06_Right_l0 k z y
noncomputable def q38_0_lp : Lp := .auto none q38_0_body (loopG 1 q38_0_st (fun z y => ∃ k, curfewref06_Right_l0 k z y) q38_0_K)
noncomputable def q38_lp : Nat → FuncId → Nat → Nat → Lp := lpTab [(38, 2, 1, 1, q38_0_lp)]
theorem q38_0_round (n : Nat) (z3x0 : List Int) (z3x1 : Int) (z3x2 : Int) (z3x3 : Int) (z3x4 : Int) (z3q0 : Nat) (K : Ret → S → Prop) (next : S → Prop) : acode q38_cx 38 (acall q38_cx okT q38_lp (n + 1)) (okT 38) (q38_lp (n + 1) 38) none q38_0_body (iterK (wkK 1 K) next) (q38_0_st (z3x0, z3x1, z3x2, z3x3, z3x4) z3q0 ()) =
    (req true (br (decide (z3x4 < z3x3)) (req ((decide (0 ≤ z3x4)) && (decide (z3x4 < (((List.length z3x0) : Nat) : Int)))) (req (Nat.blt (Int.toNat z3x4) (List.length z3x0)) (rqn 3 (∃ y5 : Int, (curfewref06_Whole_R z3x1 y5) ∧ (rqn 2 (∃ y6 : Bool, (curfewref01_Has_R y5 (List.getD z3x0 (Int.toNat z3x4) 0) y6) ∧ (req true (br (!y6) (req true (wkK 1 K .ret ⟨[(0, (vi z3x1)), (1, (vu z3x2)), (8, (V.row 0 1 (List.length z3x0) z3q0)), (9, (vi z3x3)), (10, (vi z3x4)), (11, (vb (decide (z3x4 < z3x3)))), (6, (vi (List.getD z3x0 (Int.toNat z3x4) 0))), (18, (vb (!y6))), (4, (vb false))], [(Blk.row (.int .i64) z3x0 3 z3q0)], []⟩)) (rqn 2 (next ⟨[(0, (vi z3x1)), (1, (vu z3x2)), (8, (V.row 0 1 (List.length z3x0) z3q0)), (9, (vi z3x3)), (10, (vi (wI (z3x4 + 1)))), (11, (vb (decide (z3x4 < z3x3)))), (6, (vi (List.getD z3x0 (Int.toNat z3x4) 0))), (18, (vb (!y6)))], [(Blk.row (.int .i64) z3x0 3 z3q0)], []⟩)))))))))) (wkK 1 K (.exit 0) ⟨[(0, (vi z3x1)), (1, (vu z3x2)), (8, (V.row 0 1 (List.length z3x0) z3q0)), (9, (vi z3x3)), (10, (vi z3x4)), (11, (vb (decide (z3x4 < z3x3))))], [(Blk.row (.int .i64) z3x0 3 z3q0)], []⟩))) := by kernel_rfl
theorem q38_0_ok (n : Nat) : Owed q38_cx okT 38 q38_lp (n + 1) q38_0_lp := loop_owed (fun z y h => h) fun k zz z3q0 cc y4_ K h hK next hnext => by
  obtain ⟨z3x0, z3x1, z3x2, z3x3, z3x4⟩ := zz
  refine cast (q38_0_round n z3x0 z3x1 z3x2 z3x3 z3x4 z3q0 K next).symm ?_
  simp only [curfewref06_Right_l0] at h
  refine req_intro rfl ?_
  refine br_both h (fun hb h => ?_) (fun hb h => ?_)
  · obtain ⟨q, h⟩ := req_of h
    refine req_intro (band (band_l q) (band_r q)) ?_
    obtain ⟨q, h⟩ := req_of h
    refine req_intro q ?_
    refine rqn_intro 3 ?_
    refine ex_both h fun y5 h => ?_
    refine rqn_intro 2 ?_
    refine ex_both h fun y6 h => ?_
    refine req_intro rfl ?_
    refine br_both h (fun hb h => ?_) (fun hb h => ?_)
    · refine req_intro rfl ?_
      subst h
      refine ⟨_, ?_, hK⟩
      exact wk_of (Or.inr ⟨⟨Or.inl rfl, trivial⟩, ⟨Or.inl rfl, trivial⟩, rfl, rfl, rfl⟩)
    · refine rqn_intro 2 ?_
      exact hnext (z3x0, z3x1, z3x2, z3x3, (wI (z3x4 + 1))) _ h hK ⟨(), wk_of (Or.inr ⟨⟨Or.inl rfl, Or.inl rfl, Or.inl rfl, Or.inl rfl, Or.inl rfl, trivial⟩, ⟨Or.inl rfl, trivial⟩, rfl, rfl, rfl⟩)⟩
  · subst h
    refine ⟨_, ?_, hK⟩
    exact wk_of (Or.inr ⟨⟨Or.inl rfl, trivial⟩, ⟨Or.inl rfl, trivial⟩, rfl, rfl, rfl⟩)
theorem q38_lpok : LpOk q38_cx okT q38_lp := LpOk_tab ⟨q38_0_ok, trivial⟩
def curfewref06_Right_R (a0 : Int) (a1 : Int) (y : Bool) : Prop :=
  (∃ y1 : List Int, (curfewref01_All_R a1 y1) ∧ (∃ y8 : curfewref06_Right_l0_Y, curfewref06_Right_l0_L (y1, a0, a1, (((List.length y1) : Nat) : Int), 0) y8 ∧ sume (fun y8 => (false = y)) (fun y8 => ((a1 != 0) = y)) y8))
theorem q38_tree (a0 : Int) (a1 : Int) (y : Bool) : acall q38_cx okT q38_lp 60 (.fn 38 [] []) [(V.int .i64 a0), (V.int .u64 a1)] [] (leafK .bool y) =
    (rqn 3 (∃ y1 : List Int, (curfewref01_All_R a1 y1) ∧ (∀ c2 : Nat, (rqn 2 (((none : Option Nat) = (none : Option Nat)) ∧ (q38_0_body = q38_0_body) ∧ ∃ z7 : curfewref06_Right_l0_Z, ∃ z7q : q38_0_Q, ∃ y8 : curfewref06_Right_l0_Y, (1 = 1) ∧ (∃ zc : q38_0_C, wk 1 ⟨[(0, (vi a0)), (1, (vu a1)), (4, (vb false)), (8, (V.row 0 1 (List.length y1) c2)), (9, (vi (((List.length y1) : Nat) : Int))), (10, (vi 0))], [(Blk.row (.int .i64) y1 3 c2)], []⟩ (q38_0_st z7 z7q zc)) ∧ (∃ k, curfewref06_Right_l0 k z7 y8) ∧ sume (fun y8 => (req true (false = y))) (fun y8 => (rqn 3 (req true (((z7.2.2.1) != 0) = y)))) y8))))) := by kernel_rfl
theorem q38_run (a0 : Int) (a1 : Int) (y : Bool) (h : curfewref06_Right_R a0 a1 y) : acall q38_cx okT q38_lp 60 (.fn 38 [] []) [(V.int .i64 a0), (V.int .u64 a1)] [] (leafK .bool y) := by
  refine cast (q38_tree a0 a1 y).symm ?_
  unfold curfewref06_Right_R at h
  refine rqn_intro 3 ?_
  refine ex_both h fun y1 h => ?_
  intro c2
  refine rqn_intro 2 ?_
  obtain ⟨y8, ry8, h⟩ := h
  refine ⟨rfl, rfl, (y1, a0, a1, (((List.length y1) : Nat) : Int), 0), c2, y8, rfl, ⟨(), wk_of (Or.inr ⟨⟨Or.inl rfl, Or.inl rfl, Or.inl rfl, Or.inl rfl, Or.inl rfl, trivial⟩, ⟨Or.inl rfl, trivial⟩, rfl, rfl, rfl⟩)⟩, ry8, ?_⟩
  refine sume_both h (fun y8 h => ?_) (fun y8 h => ?_)
  · exact req_intro rfl h
  · refine rqn_intro 3 ?_
    exact req_intro rfl h
theorem curfewref06_Right_ok : FxOk Tryd.prog gsT 38 (.cons (.int .i64) (.one (.int .u64))) .bool fun x y => curfewref06_Right_R (x.1) (x.2) y := fx_of (c := q38_cx) (ty_ok rfl) (eq_ok rfl) q38_fns follows_ok (ok := okT) (lp := q38_lp) (n := 60) q38_lpok (enters Tryd.func38 (by kernel_rfl) rfl) (fun y => ⟨_, rfl⟩) fun x y h => q38_run _ _ y h
noncomputable def q14_cx : Cx := ⟨tyT, [(14, .body Tryd.f14),
  (37, .fx (.one (.agg (.cons (.int .u64) (.cons (.int .u64) (.cons (.int .u64) (.cons (.int .u64) (.one (.int .u64)))))))) (.agg (.cons (.int .u64) (.cons (.int .u64) (.cons (.int .u64) (.cons (.int .u64) (.one (.int .u64))))))) fun x y => curfewref07_Fields_R (x.1) (x.2.1) (x.2.2.1) (x.2.2.2.1) (x.2.2.2.2) y),
  (38, .fx (.cons (.int .i64) (.one (.int .u64))) .bool fun x y => curfewref06_Right_R (x.1) (x.2) y)], gsT, eqT⟩
theorem q14_fns : FnsOk Tryd.prog q14_cx := Fns_assoc ⟨body_ent Tryd.func14 (by kernel_rfl) (by kernel_rfl), curfewref07_Fields_ok, curfewref06_Right_ok, trivial⟩
noncomputable def q14_0_body : Code := subC [1, 0, 1, 0, 0] (bodyOf Tryd.f14)
abbrev curfewref07_Right_l0_Z : Type := Int × Int × Int × Int × Int × Int × Int × Int × Int × Int × Int
abbrev curfewref07_Right_l0_Y : Type := (Unit) ⊕ (Unit)
abbrev q14_0_C : Type := Unit
abbrev q14_0_Q : Type := Unit
noncomputable def q14_0_st (z2 : curfewref07_Right_l0_Z) (z2q : q14_0_Q) (z2c : q14_0_C) : S := ⟨[(6, (V.agg [(vu (z2.2.2.2.2.2.1)), (vu (z2.2.2.2.2.2.2.1)), (vu (z2.2.2.2.2.2.2.2.1)), (vu (z2.2.2.2.2.2.2.2.2.1)), (vu (z2.2.2.2.2.2.2.2.2.2.1))])), (7, (vi (z2.2.2.2.2.2.2.2.2.2.2)))], [(Blk.cells [(vu (z2.1)), (vu (z2.2.1)), (vu (z2.2.2.1)), (vu (z2.2.2.2.1)), (vu (z2.2.2.2.2.1))])], []⟩
def q14_0_K (K : Ret → S → Prop) (z2 : curfewref07_Right_l0_Z) (z2q : q14_0_Q) (y3 : curfewref07_Right_l0_Y) : Prop := sume (fun y3 => K .ret ⟨[(2, (vb false))], [(Blk.cells [(vu (z2.1)), (vu (z2.2.1)), (vu (z2.2.2.1)), (vu (z2.2.2.2.1)), (vu (z2.2.2.2.2.1))])], []⟩) (fun y3 => K (.exit 0) ⟨[], [(Blk.cells [(vu (z2.1)), (vu (z2.2.1)), (vu (z2.2.2.1)), (vu (z2.2.2.2.1)), (vu (z2.2.2.2.2.1))])], []⟩) y3
def curfewref07_Right_l0 : Nat → curfewref07_Right_l0_Z → curfewref07_Right_l0_Y → Prop
  | 0, _, _ => False
  | k + 1, (z2x0, z2x1, z2x2, z2x3, z2x4, z2x5, z2x6, z2x7, z2x8, z2x9, z2x10), y3_ => (br (decide (z2x10 < 5)) (req (((decide (0 ≤ z2x10)) && (decide (z2x10 < 5))) && (Nat.blt ((Int.toNat z2x10) * 1) 5)) (∃ y4 : Bool, (curfewref06_Right_R z2x10 (List.getD ([z2x5, z2x6, z2x7, z2x8, z2x9] : List Int) ((Int.toNat z2x10) * 1) 0) y4) ∧ (br (!y4) ((Sum.inl ()) = y3_) (curfewref07_Right_l0 k (z2x0, z2x1, z2x2, z2x3, z2x4, z2x5, z2x6, z2x7, z2x8, z2x9, (IntKind.wrap .i64 (z2x10 + 1))) y3_)))) ((Sum.inr ()) = y3_))
def curfewref07_Right_l0_L (z : curfewref07_Right_l0_Z) (y : curfewref07_Right_l0_Y) : Prop := ∃ k, curfewref07_Right_l0 k z y
noncomputable def q14_0_lp : Lp := .auto none q14_0_body (loopG 1 q14_0_st (fun z y => ∃ k, curfewref07_Right_l0 k z y) q14_0_K)
noncomputable def q14_lp : Nat → FuncId → Nat → Nat → Lp := lpTab [(14, 2, 1, 1, q14_0_lp)]
theorem q14_0_round (n : Nat) (z2x0 : Int) (z2x1 : Int) (z2x2 : Int) (z2x3 : Int) (z2x4 : Int) (z2x5 : Int) (z2x6 : Int) (z2x7 : Int) (z2x8 : Int) (z2x9 : Int) (z2x10 : Int) (K : Ret → S → Prop) (next : S → Prop) : acode q14_cx 14 (acall q14_cx okT q14_lp (n + 1)) (okT 14) (q14_lp (n + 1) 14) none q14_0_body (iterK (wkK 1 K) next) (q14_0_st (z2x0, z2x1, z2x2, z2x3, z2x4, z2x5, z2x6, z2x7, z2x8, z2x9, z2x10) () ()) =
    (req true (br (decide (z2x10 < 5)) (req true (req (((decide (0 ≤ z2x10)) && (decide (z2x10 < 5))) && (Nat.blt ((Int.toNat z2x10) * 1) 5)) (rqn 5 (∃ y4 : Bool, (curfewref06_Right_R z2x10 (List.getD ([z2x5, z2x6, z2x7, z2x8, z2x9] : List Int) ((Int.toNat z2x10) * 1) 0) y4) ∧ (req true (br (!y4) (req true (wkK 1 K .ret ⟨[(6, (V.agg [(vu z2x5), (vu z2x6), (vu z2x7), (vu z2x8), (vu z2x9)])), (7, (vi z2x10)), (8, (vb (decide (z2x10 < 5)))), (3, (vi z2x10)), (4, (vu (List.getD ([z2x5, z2x6, z2x7, z2x8, z2x9] : List Int) ((Int.toNat z2x10) * 1) 0))), (14, (vb (!y4))), (2, (vb false))], [(Blk.cells [(vu z2x0), (vu z2x1), (vu z2x2), (vu z2x3), (vu z2x4)])], []⟩)) (rqn 2 (next ⟨[(6, (V.agg [(vu z2x5), (vu z2x6), (vu z2x7), (vu z2x8), (vu z2x9)])), (7, (vi (wI (z2x10 + 1)))), (8, (vb (decide (z2x10 < 5)))), (3, (vi z2x10)), (4, (vu (List.getD ([z2x5, z2x6, z2x7, z2x8, z2x9] : List Int) ((Int.toNat z2x10) * 1) 0))), (14, (vb (!y4)))], [(Blk.cells [(vu z2x0), (vu z2x1), (vu z2x2), (vu z2x3), (vu z2x4)])], []⟩)))))))) (wkK 1 K (.exit 0) ⟨[(6, (V.agg [(vu z2x5), (vu z2x6), (vu z2x7), (vu z2x8), (vu z2x9)])), (7, (vi z2x10)), (8, (vb (decide (z2x10 < 5))))], [(Blk.cells [(vu z2x0), (vu z2x1), (vu z2x2), (vu z2x3), (vu z2x4)])], []⟩))) := by kernel_rfl
theorem q14_0_ok (n : Nat) : Owed q14_cx okT 14 q14_lp (n + 1) q14_0_lp := loop_owed (fun z y h => h) fun k zz qq cc y3_ K h hK next hnext => by
  obtain ⟨z2x0, z2x1, z2x2, z2x3, z2x4, z2x5, z2x6, z2x7, z2x8, z2x9, z2x10⟩ := zz
  refine cast (q14_0_round n z2x0 z2x1 z2x2 z2x3 z2x4 z2x5 z2x6 z2x7 z2x8 z2x9 z2x10 K next).symm ?_
  simp only [curfewref07_Right_l0] at h
  refine req_intro rfl ?_
  refine br_both h (fun hb h => ?_) (fun hb h => ?_)
  · refine req_intro rfl ?_
    obtain ⟨q, h⟩ := req_of h
    refine req_intro (band (band (band_l (band_l q)) (band_r (band_l q))) (band_r q)) ?_
    refine rqn_intro 5 ?_
    refine ex_both h fun y4 h => ?_
    refine req_intro rfl ?_
    refine br_both h (fun hb h => ?_) (fun hb h => ?_)
    · refine req_intro rfl ?_
      subst h
      refine ⟨_, ?_, hK⟩
      exact wk_of (Or.inr ⟨⟨Or.inl rfl, trivial⟩, ⟨Or.inl rfl, trivial⟩, rfl, rfl, rfl⟩)
    · refine rqn_intro 2 ?_
      exact hnext (z2x0, z2x1, z2x2, z2x3, z2x4, z2x5, z2x6, z2x7, z2x8, z2x9, (wI (z2x10 + 1))) _ h hK ⟨(), wk_of (Or.inr ⟨⟨Or.inl rfl, Or.inl rfl, trivial⟩, ⟨Or.inl rfl, trivial⟩, rfl, rfl, rfl⟩)⟩
  · subst h
    refine ⟨_, ?_, hK⟩
    exact wk_of (Or.inr ⟨trivial, ⟨Or.inl rfl, trivial⟩, rfl, rfl, rfl⟩)
theorem q14_lpok : LpOk q14_cx okT q14_lp := LpOk_tab ⟨q14_0_ok, trivial⟩
def curfewref07_Right_R (a0 : Int) (a1 : Int) (a2 : Int) (a3 : Int) (a4 : Int) (y : Bool) : Prop :=
  (∃ y1 : Int × Int × Int × Int × Int, (curfewref07_Fields_R a0 a1 a2 a3 a4 y1) ∧ (∃ y6 : curfewref07_Right_l0_Y, curfewref07_Right_l0_L (a0, a1, a2, a3, a4, (y1.1), ((y1.2).1), (((y1.2).2).1), ((((y1.2).2).2).1), ((((y1.2).2).2).2), 0) y6 ∧ sume (fun y6 => (false = y)) (fun y6 => (true = y)) y6))
theorem q14_tree (a0 : Int) (a1 : Int) (a2 : Int) (a3 : Int) (a4 : Int) (y : Bool) : acall q14_cx okT q14_lp 60 (.fn 14 [] []) [(V.agg [(V.int .u64 a0), (V.int .u64 a1), (V.int .u64 a2), (V.int .u64 a3), (V.int .u64 a4)])] [] (leafK .bool y) =
    (rqn 3 (∃ y1 : Int × Int × Int × Int × Int, (curfewref07_Fields_R a0 a1 a2 a3 a4 y1) ∧ (req true (((none : Option Nat) = (none : Option Nat)) ∧ (q14_0_body = q14_0_body) ∧ ∃ z5 : curfewref07_Right_l0_Z, ∃ z5q : q14_0_Q, ∃ y6 : curfewref07_Right_l0_Y, (1 = 1) ∧ (∃ zc : q14_0_C, wk 1 ⟨[(0, (V.agg [(vu a0), (vu a1), (vu a2), (vu a3), (vu a4)])), (1, (V.ptr 0 0)), (2, (vb false)), (6, (V.agg [(vu (y1.1)), (vu ((y1.2).1)), (vu (((y1.2).2).1)), (vu ((((y1.2).2).2).1)), (vu ((((y1.2).2).2).2))])), (7, (vi 0))], [(Blk.cells [(vu a0), (vu a1), (vu a2), (vu a3), (vu a4)])], []⟩ (q14_0_st z5 z5q zc)) ∧ (∃ k, curfewref07_Right_l0 k z5 y6) ∧ sume (fun y6 => (req true (false = y))) (fun y6 => (req true (req true (true = y)))) y6)))) := by kernel_rfl
theorem q14_run (a0 : Int) (a1 : Int) (a2 : Int) (a3 : Int) (a4 : Int) (y : Bool) (h : curfewref07_Right_R a0 a1 a2 a3 a4 y) : acall q14_cx okT q14_lp 60 (.fn 14 [] []) [(V.agg [(V.int .u64 a0), (V.int .u64 a1), (V.int .u64 a2), (V.int .u64 a3), (V.int .u64 a4)])] [] (leafK .bool y) := by
  refine cast (q14_tree a0 a1 a2 a3 a4 y).symm ?_
  unfold curfewref07_Right_R at h
  refine rqn_intro 3 ?_
  refine ex_both h fun y1 h => ?_
  refine req_intro rfl ?_
  obtain ⟨y6, ry6, h⟩ := h
  refine ⟨rfl, rfl, (a0, a1, a2, a3, a4, (y1.1), ((y1.2).1), (((y1.2).2).1), ((((y1.2).2).2).1), ((((y1.2).2).2).2), 0), (), y6, rfl, ⟨(), wk_of (Or.inr ⟨⟨Or.inl rfl, Or.inl rfl, trivial⟩, ⟨Or.inl rfl, trivial⟩, rfl, rfl, rfl⟩)⟩, ry6, ?_⟩
  refine sume_both h (fun y6 h => ?_) (fun y6 h => ?_)
  · exact req_intro rfl h
  · refine req_intro rfl ?_
    exact req_intro rfl h
theorem curfewref07_Right_ok : FxOk Tryd.prog gsT 14 (.one (.agg (.cons (.int .u64) (.cons (.int .u64) (.cons (.int .u64) (.cons (.int .u64) (.one (.int .u64)))))))) .bool fun x y => curfewref07_Right_R (x.1) (x.2.1) (x.2.2.1) (x.2.2.2.1) (x.2.2.2.2) y := fx_of (c := q14_cx) (ty_ok rfl) (eq_ok rfl) q14_fns follows_ok (ok := okT) (lp := q14_lp) (n := 60) q14_lpok (enters Tryd.func14 (by kernel_rfl) rfl) (fun y => ⟨_, rfl⟩) fun x y h => q14_run _ _ _ _ _ y h
noncomputable def q43_cx : Cx := ⟨tyT, [(43, .body Tryd.f43)], gsT, eqT⟩
theorem q43_fns : FnsOk Tryd.prog q43_cx := Fns_assoc ⟨body_ent Tryd.func43 (by kernel_rfl) (by kernel_rfl), trivial⟩
def curfewref08_Day_R (a0 : Int) (y : Int) : Prop :=
  (br (decide (a0 < 0)) (0 = y) (br (decide (a0 > 253402300799)) (2932896 = y) ((IntKind.wrap .i64 (Int.tdiv a0 86400)) = y)))
theorem q43_tree (a0 : Int) (y : Int) : acall q43_cx okT lpT 60 (.fn 43 [] []) [(V.int .i64 a0)] [] (leafK (.int .i64) y) =
    (rqn 3 (br (decide (a0 < 0)) (req true (req true (0 = y))) (rqn 2 (br (decide (a0 > 253402300799)) (req true (req true (2932896 = y))) (rqn 3 (req true ((wI (Int.tdiv a0 86400)) = y))))))) := by kernel_rfl
theorem q43_run (a0 : Int) (y : Int) (h : curfewref08_Day_R a0 y) : acall q43_cx okT lpT 60 (.fn 43 [] []) [(V.int .i64 a0)] [] (leafK (.int .i64) y) := by
  refine cast (q43_tree a0 y).symm ?_
  unfold curfewref08_Day_R at h
  refine rqn_intro 3 ?_
  refine br_both h (fun hb h => ?_) (fun hb h => ?_)
  · refine req_intro rfl ?_
    exact req_intro rfl h
  · refine rqn_intro 2 ?_
    refine br_both h (fun hb h => ?_) (fun hb h => ?_)
    · refine req_intro rfl ?_
      exact req_intro rfl h
    · refine rqn_intro 3 ?_
      exact req_intro rfl h
theorem curfewref08_Day_ok : FxOk Tryd.prog gsT 43 (.one (.int .i64)) (.int .i64) fun x y => curfewref08_Day_R x y := fx_of (c := q43_cx) (ty_ok rfl) (eq_ok rfl) q43_fns follows_ok (ok := okT) (lp := lpT) (n := 60) lp_ok (enters Tryd.func43 (by kernel_rfl) rfl) (fun y => ⟨_, rfl⟩) fun x y h => q43_run _ y h
noncomputable def q108_cx : Cx := ⟨tyT, [(108, .body Tryd.f108)], gsT, eqT⟩
theorem q108_fns : FnsOk Tryd.prog q108_cx := Fns_assoc ⟨body_ent Tryd.func108 (by kernel_rfl) (by kernel_rfl), trivial⟩
def curfewref04_Leap_R (a0 : Int) (y : Bool) : Prop :=
  (br ((Int.tmod a0 4) == 0) (br ((Int.tmod a0 100) != 0) (true = y) (((Int.tmod a0 400) == 0) = y)) (((Int.tmod a0 400) == 0) = y))
theorem q108_tree (a0 : Int) (y : Bool) : acall q108_cx okT lpT 60 (.fn 108 [] []) [(V.int .i64 a0)] [] (leafK .bool y) =
    (rqn 5 (br ((Int.tmod a0 4) == 0) (rqn 5 (br ((Int.tmod a0 100) != 0) (rqn 2 (req true (true = y))) (rqn 5 (req true (((Int.tmod a0 400) == 0) = y))))) (rqn 7 (req true (((Int.tmod a0 400) == 0) = y))))) := by kernel_rfl
theorem q108_run (a0 : Int) (y : Bool) (h : curfewref04_Leap_R a0 y) : acall q108_cx okT lpT 60 (.fn 108 [] []) [(V.int .i64 a0)] [] (leafK .bool y) := by
  refine cast (q108_tree a0 y).symm ?_
  unfold curfewref04_Leap_R at h
  refine rqn_intro 5 ?_
  refine br_both h (fun hb h => ?_) (fun hb h => ?_)
  · refine rqn_intro 5 ?_
    refine br_both h (fun hb h => ?_) (fun hb h => ?_)
    · refine rqn_intro 2 ?_
      exact req_intro rfl h
    · refine rqn_intro 5 ?_
      exact req_intro rfl h
  · refine rqn_intro 7 ?_
    exact req_intro rfl h
theorem curfewref04_Leap_ok : FxOk Tryd.prog gsT 108 (.one (.int .i64)) .bool fun x y => curfewref04_Leap_R x y := fx_of (c := q108_cx) (ty_ok rfl) (eq_ok rfl) q108_fns follows_ok (ok := okT) (lp := lpT) (n := 60) lp_ok (enters Tryd.func108 (by kernel_rfl) rfl) (fun y => ⟨_, rfl⟩) fun x y h => q108_run _ y h
noncomputable def q78_cx : Cx := ⟨tyT, [(78, .body Tryd.f78),
  (108, .fx (.one (.int .i64)) .bool fun x y => curfewref04_Leap_R x y)], gsT, eqT⟩
theorem q78_fns : FnsOk Tryd.prog q78_cx := Fns_assoc ⟨body_ent Tryd.func78 (by kernel_rfl) (by kernel_rfl), curfewref04_Leap_ok, trivial⟩
def curfewref04_year_R (a0 : Int) (y : Int) : Prop :=
  (∃ y1 : Bool, (curfewref04_Leap_R a0 y1) ∧ (br y1 (366 = y) (365 = y)))
theorem q78_tree (a0 : Int) (y : Int) : acall q78_cx okT lpT 60 (.fn 78 [] []) [(V.int .i64 a0)] [] (leafK (.int .i64) y) =
    (rqn 3 (∃ y1 : Bool, (curfewref04_Leap_R a0 y1) ∧ (br y1 (req true (req true (366 = y))) (req true (req true (365 = y)))))) := by kernel_rfl
theorem q78_run (a0 : Int) (y : Int) (h : curfewref04_year_R a0 y) : acall q78_cx okT lpT 60 (.fn 78 [] []) [(V.int .i64 a0)] [] (leafK (.int .i64) y) := by
  refine cast (q78_tree a0 y).symm ?_
  unfold curfewref04_year_R at h
  refine rqn_intro 3 ?_
  refine ex_both h fun y1 h => ?_
  refine br_both h (fun hb h => ?_) (fun hb h => ?_)
  · refine req_intro rfl ?_
    exact req_intro rfl h
  · refine req_intro rfl ?_
    exact req_intro rfl h
theorem curfewref04_year_ok : FxOk Tryd.prog gsT 78 (.one (.int .i64)) (.int .i64) fun x y => curfewref04_year_R x y := fx_of (c := q78_cx) (ty_ok rfl) (eq_ok rfl) q78_fns follows_ok (ok := okT) (lp := lpT) (n := 60) lp_ok (enters Tryd.func78 (by kernel_rfl) rfl) (fun y => ⟨_, rfl⟩) fun x y h => q78_run _ y h
noncomputable def q79_cx : Cx := ⟨tyT, [(79, .body Tryd.f79),
  (108, .fx (.one (.int .i64)) .bool fun x y => curfewref04_Leap_R x y)], gsT, eqT⟩
theorem q79_fns : FnsOk Tryd.prog q79_cx := Fns_assoc ⟨body_ent Tryd.func79 (by kernel_rfl) (by kernel_rfl), curfewref04_Leap_ok, trivial⟩
def curfewref04_Long_R (a0 : Int) (a1 : Int) (y : Int) : Prop :=
  (br (decide (a1 < 1)) (0 = y) (br (decide (a1 > 12)) (0 = y) (br (a1 == 2) (∃ y1 : Bool, (curfewref04_Leap_R a0 y1) ∧ (br y1 (29 = y) (req (((decide (0 ≤ (IntKind.wrap .i64 (a1 - 1)))) && (decide ((IntKind.wrap .i64 (a1 - 1)) < 12))) && (Nat.blt ((Int.toNat (IntKind.wrap .i64 (a1 - 1))) * 1) 12)) ((List.getD ([31, 28, 31, 30, 31, 30, 31, 31, 30, 31, 30, 31] : List Int) ((Int.toNat (IntKind.wrap .i64 (a1 - 1))) * 1) 0) = y)))) (req (((decide (0 ≤ (IntKind.wrap .i64 (a1 - 1)))) && (decide ((IntKind.wrap .i64 (a1 - 1)) < 12))) && (Nat.blt ((Int.toNat (IntKind.wrap .i64 (a1 - 1))) * 1) 12)) ((List.getD ([31, 28, 31, 30, 31, 30, 31, 31, 30, 31, 30, 31] : List Int) ((Int.toNat (IntKind.wrap .i64 (a1 - 1))) * 1) 0) = y)))))
theorem q79_tree (a0 : Int) (a1 : Int) (y : Int) : acall q79_cx okT lpT 60 (.fn 79 [] []) [(V.int .i64 a0), (V.int .i64 a1)] [] (leafK (.int .i64) y) =
    (rqn 4 (br (decide (a1 < 1)) (rqn 2 (req true (0 = y))) (rqn 3 (br (decide (a1 > 12)) (req true (req true (0 = y))) (rqn 3 (br (a1 == 2) (rqn 2 (∃ y1 : Bool, (curfewref04_Leap_R a0 y1) ∧ (req true (br y1 (req true (req true (29 = y))) (rqn 3 (req (((decide (0 ≤ (wI (a1 - 1)))) && (decide ((wI (a1 - 1)) < 12))) && (Nat.blt ((Int.toNat (wI (a1 - 1))) * 1) 12)) (req true (req true ((List.getD ([31, 28, 31, 30, 31, 30, 31, 31, 30, 31, 30, 31] : List Int) ((Int.toNat (wI (a1 - 1))) * 1) 0) = y))))))))) (rqn 4 (req (((decide (0 ≤ (wI (a1 - 1)))) && (decide ((wI (a1 - 1)) < 12))) && (Nat.blt ((Int.toNat (wI (a1 - 1))) * 1) 12)) (req true (req true ((List.getD ([31, 28, 31, 30, 31, 30, 31, 31, 30, 31, 30, 31] : List Int) ((Int.toNat (wI (a1 - 1))) * 1) 0) = y))))))))))) := by kernel_rfl
theorem q79_run (a0 : Int) (a1 : Int) (y : Int) (h : curfewref04_Long_R a0 a1 y) : acall q79_cx okT lpT 60 (.fn 79 [] []) [(V.int .i64 a0), (V.int .i64 a1)] [] (leafK (.int .i64) y) := by
  refine cast (q79_tree a0 a1 y).symm ?_
  unfold curfewref04_Long_R at h
  refine rqn_intro 4 ?_
  refine br_both h (fun hb h => ?_) (fun hb h => ?_)
  · refine rqn_intro 2 ?_
    exact req_intro rfl h
  · refine rqn_intro 3 ?_
    refine br_both h (fun hb h => ?_) (fun hb h => ?_)
    · refine req_intro rfl ?_
      exact req_intro rfl h
    · refine rqn_intro 3 ?_
      refine br_both h (fun hb h => ?_) (fun hb h => ?_)
      · refine rqn_intro 2 ?_
        refine ex_both h fun y1 h => ?_
        refine req_intro rfl ?_
        refine br_both h (fun hb h => ?_) (fun hb h => ?_)
        · refine req_intro rfl ?_
          exact req_intro rfl h
        · refine rqn_intro 3 ?_
          obtain ⟨q, h⟩ := req_of h
          refine req_intro (band (band (band_l (band_l q)) (band_r (band_l q))) (band_r q)) ?_
          refine req_intro rfl ?_
          exact req_intro rfl h
      · refine rqn_intro 4 ?_
        obtain ⟨q, h⟩ := req_of h
        refine req_intro (band (band (band_l (band_l q)) (band_r (band_l q))) (band_r q)) ?_
        refine req_intro rfl ?_
        exact req_intro rfl h
theorem curfewref04_Long_ok : FxOk Tryd.prog gsT 79 (.cons (.int .i64) (.one (.int .i64))) (.int .i64) fun x y => curfewref04_Long_R (x.1) (x.2) y := fx_of (c := q79_cx) (ty_ok rfl) (eq_ok rfl) q79_fns follows_ok (ok := okT) (lp := lpT) (n := 60) lp_ok (enters Tryd.func79 (by kernel_rfl) rfl) (fun y => ⟨_, rfl⟩) fun x y h => q79_run _ _ y h
noncomputable def q44_cx : Cx := ⟨tyT, [(44, .body Tryd.f44),
  (78, .fx (.one (.int .i64)) (.int .i64) fun x y => curfewref04_year_R x y),
  (79, .fx (.cons (.int .i64) (.one (.int .i64))) (.int .i64) fun x y => curfewref04_Long_R (x.1) (x.2) y)], gsT, eqT⟩
theorem q44_fns : FnsOk Tryd.prog q44_cx := Fns_assoc ⟨body_ent Tryd.func44 (by kernel_rfl) (by kernel_rfl), curfewref04_year_ok, curfewref04_Long_ok, trivial⟩
noncomputable def q44_0_body : Code := subC [1, 1, 0, 0, 0] (bodyOf Tryd.f44)
abbrev curfewref04_At_l0_Z : Type := Int × Int
abbrev curfewref04_At_l0_Y : Type := Int × Int
abbrev q44_0_C : Type := Unit
abbrev q44_0_Q : Type := Unit
noncomputable def q44_0_st (z1 : curfewref04_At_l0_Z) (z1q : q44_0_Q) (z1c : q44_0_C) : S := ⟨[(0, (vi (z1.2))), (2, (V.ptr 0 0)), (3, (V.ptr 1 0))], [(Blk.cells [(vi 0), (vi 0), (vi 0)]), (Blk.cells [(vi (z1.1)), (vi 1), (vi 0)])], []⟩
def q44_0_K (K : Ret → S → Prop) (z1 : curfewref04_At_l0_Z) (z1q : q44_0_Q) (y2 : curfewref04_At_l0_Y) : Prop := K (.exit 0) ⟨[(0, (vi (y2.2))), (2, (V.ptr 0 0)), (3, (V.ptr 1 0))], [(Blk.cells [(vi 0), (vi 0), (vi 0)]), (Blk.cells [(vi (y2.1)), (vi 1), (vi 0)])], []⟩
def curfewref04_At_l0 : Nat → curfewref04_At_l0_Z → curfewref04_At_l0_Y → Prop
  | 0, _, _ => False
  | k + 1, (z1x0, z1x1), y2_ => (∃ y3 : Int, (curfewref04_year_R z1x0 y3) ∧ (br (decide (z1x1 ≥ y3)) (∃ y4 : Int, (curfewref04_year_R z1x0 y4) ∧ (curfewref04_At_l0 k ((IntKind.wrap .i64 (z1x0 + 1)), (IntKind.wrap .i64 (z1x1 - y4))) y2_)) ((z1x0, z1x1) = y2_)))
def curfewref04_At_l0_L (z : curfewref04_At_l0_Z) (y : curfewref04_At_l0_Y) : Prop := ∃ k, curfewref04_At_l0 k z y
noncomputable def q44_0_lp : Lp := .auto none q44_0_body (loopG 2 q44_0_st (fun z y => ∃ k, curfewref04_At_l0 k z y) q44_0_K)
noncomputable def q44_1_body : Code := subC [1, 1, 1, 0, 0, 0] (bodyOf Tryd.f44)
abbrev curfewref04_At_l1_Z : Type := Int × Int × Int
abbrev curfewref04_At_l1_Y : Type := Int × Int
abbrev q44_1_C : Type := Unit
abbrev q44_1_Q : Type := Unit
noncomputable def q44_1_st (z7 : curfewref04_At_l1_Z) (z7q : q44_1_Q) (z7c : q44_1_C) : S := ⟨[(0, (vi (z7.2.2))), (2, (V.ptr 0 0)), (3, (V.ptr 1 0))], [(Blk.cells [(vi 0), (vi 0), (vi 0)]), (Blk.cells [(vi (z7.1)), (vi (z7.2.1)), (vi 0)])], []⟩
def q44_1_K (K : Ret → S → Prop) (z7 : curfewref04_At_l1_Z) (z7q : q44_1_Q) (y8 : curfewref04_At_l1_Y) : Prop := K (.exit 2) ⟨[(0, (vi (y8.2))), (2, (V.ptr 0 0)), (3, (V.ptr 1 0))], [(Blk.cells [(vi 0), (vi 0), (vi 0)]), (Blk.cells [(vi (z7.1)), (vi (y8.1)), (vi 0)])], []⟩
def curfewref04_At_l1 : Nat → curfewref04_At_l1_Z → curfewref04_At_l1_Y → Prop
  | 0, _, _ => False
  | k + 1, (z7x0, z7x1, z7x2), y8_ => (∃ y9 : Int, (curfewref04_Long_R z7x0 z7x1 y9) ∧ (br (decide (z7x2 ≥ y9)) (∃ y10 : Int, (curfewref04_Long_R z7x0 z7x1 y10) ∧ (curfewref04_At_l1 k (z7x0, (IntKind.wrap .i64 (z7x1 + 1)), (IntKind.wrap .i64 (z7x2 - y10))) y8_)) ((z7x1, z7x2) = y8_)))
def curfewref04_At_l1_L (z : curfewref04_At_l1_Z) (y : curfewref04_At_l1_Y) : Prop := ∃ k, curfewref04_At_l1 k z y
noncomputable def q44_1_lp : Lp := .auto none q44_1_body (loopG 2 q44_1_st (fun z y => ∃ k, curfewref04_At_l1 k z y) q44_1_K)
noncomputable def q44_lp : Nat → FuncId → Nat → Nat → Lp := lpTab [(44, 2, 2, 1, q44_0_lp), (44, 5, 2, 1, q44_1_lp)]
theorem q44_0_round (n : Nat) (z1x0 : Int) (z1x1 : Int) (K : Ret → S → Prop) (next : S → Prop) : acode q44_cx 44 (acall q44_cx okT q44_lp (n + 1)) (okT 44) (q44_lp (n + 1) 44) none q44_0_body (iterK (wkK 2 K) next) (q44_0_st (z1x0, z1x1) () ()) =
    (rqn 4 (∃ y3 : Int, (curfewref04_year_R z1x0 y3) ∧ (req true (br (decide (z1x1 ≥ y3)) (rqn 4 (∃ y4 : Int, (curfewref04_year_R z1x0 y4) ∧ (rqn 6 (next ⟨[(0, (vi (wI (z1x1 - y4)))), (2, (V.ptr 0 0)), (3, (V.ptr 1 0)), (9, (vb (decide (z1x1 ≥ y3))))], [(Blk.cells [(vi 0), (vi 0), (vi 0)]), (Blk.cells [(vi (wI (z1x0 + 1))), (vi 1), (vi 0)])], []⟩)))) (wkK 2 K (.exit 0) ⟨[(0, (vi z1x1)), (2, (V.ptr 0 0)), (3, (V.ptr 1 0)), (9, (vb (decide (z1x1 ≥ y3))))], [(Blk.cells [(vi 0), (vi 0), (vi 0)]), (Blk.cells [(vi z1x0), (vi 1), (vi 0)])], []⟩))))) := by kernel_rfl
theorem q44_0_ok (n : Nat) : Owed q44_cx okT 44 q44_lp (n + 1) q44_0_lp := loop_owed (fun z y h => h) fun k zz qq cc y2_ K h hK next hnext => by
  obtain ⟨z1x0, z1x1⟩ := zz
  refine cast (q44_0_round n z1x0 z1x1 K next).symm ?_
  simp only [curfewref04_At_l0] at h
  refine rqn_intro 4 ?_
  refine ex_both h fun y3 h => ?_
  refine req_intro rfl ?_
  refine br_both h (fun hb h => ?_) (fun hb h => ?_)
  · refine rqn_intro 4 ?_
    refine ex_both h fun y4 h => ?_
    refine rqn_intro 6 ?_
    exact hnext ((wI (z1x0 + 1)), (wI (z1x1 - y4))) _ h hK ⟨(), wk_of (Or.inr ⟨⟨Or.inl rfl, Or.inl rfl, Or.inl rfl, trivial⟩, ⟨Or.inl rfl, Or.inl rfl, trivial⟩, rfl, rfl, rfl⟩)⟩
  · subst h
    refine ⟨_, ?_, hK⟩
    exact wk_of (Or.inr ⟨⟨Or.inl rfl, Or.inl rfl, Or.inl rfl, trivial⟩, ⟨Or.inl rfl, Or.inl rfl, trivial⟩, rfl, rfl, rfl⟩)
theorem q44_1_round (n : Nat) (z7x0 : Int) (z7x1 : Int) (z7x2 : Int) (K : Ret → S → Prop) (next : S → Prop) : acode q44_cx 44 (acall q44_cx okT q44_lp (n + 1)) (okT 44) (q44_lp (n + 1) 44) none q44_1_body (iterK (wkK 2 K) next) (q44_1_st (z7x0, z7x1, z7x2) () ()) =
    (rqn 6 (∃ y9 : Int, (curfewref04_Long_R z7x0 z7x1 y9) ∧ (req true (br (decide (z7x2 ≥ y9)) (rqn 6 (∃ y10 : Int, (curfewref04_Long_R z7x0 z7x1 y10) ∧ (rqn 6 (next ⟨[(0, (vi (wI (z7x2 - y10)))), (2, (V.ptr 0 0)), (3, (V.ptr 1 0)), (25, (vb (decide (z7x2 ≥ y9))))], [(Blk.cells [(vi 0), (vi 0), (vi 0)]), (Blk.cells [(vi z7x0), (vi (wI (z7x1 + 1))), (vi 0)])], []⟩)))) (wkK 2 K (.exit 2) ⟨[(0, (vi z7x2)), (2, (V.ptr 0 0)), (3, (V.ptr 1 0)), (25, (vb (decide (z7x2 ≥ y9))))], [(Blk.cells [(vi 0), (vi 0), (vi 0)]), (Blk.cells [(vi z7x0), (vi z7x1), (vi 0)])], []⟩))))) := by kernel_rfl
theorem q44_1_ok (n : Nat) : Owed q44_cx okT 44 q44_lp (n + 1) q44_1_lp := loop_owed (fun z y h => h) fun k zz qq cc y8_ K h hK next hnext => by
  obtain ⟨z7x0, z7x1, z7x2⟩ := zz
  refine cast (q44_1_round n z7x0 z7x1 z7x2 K next).symm ?_
  simp only [curfewref04_At_l1] at h
  refine rqn_intro 6 ?_
  refine ex_both h fun y9 h => ?_
  refine req_intro rfl ?_
  refine br_both h (fun hb h => ?_) (fun hb h => ?_)
  · refine rqn_intro 6 ?_
    refine ex_both h fun y10 h => ?_
    refine rqn_intro 6 ?_
    exact hnext (z7x0, (wI (z7x1 + 1)), (wI (z7x2 - y10))) _ h hK ⟨(), wk_of (Or.inr ⟨⟨Or.inl rfl, Or.inl rfl, Or.inl rfl, trivial⟩, ⟨Or.inl rfl, Or.inl rfl, trivial⟩, rfl, rfl, rfl⟩)⟩
  · subst h
    refine ⟨_, ?_, hK⟩
    exact wk_of (Or.inr ⟨⟨Or.inl rfl, Or.inl rfl, Or.inl rfl, trivial⟩, ⟨Or.inl rfl, Or.inl rfl, trivial⟩, rfl, rfl, rfl⟩)
theorem q44_lpok : LpOk q44_cx okT q44_lp := LpOk_tab ⟨q44_0_ok, q44_1_ok, trivial⟩
def curfewref04_At_R (a0 : Int) (y : Int × Int × Int) : Prop :=
  (∃ y6 : curfewref04_At_l0_Y, curfewref04_At_l0_L (1970, a0) y6 ∧ (∃ y12 : curfewref04_At_l1_Y, curfewref04_At_l1_L ((y6.1), 1, (y6.2)) y12 ∧ (((y6.1), ((y12.1), (IntKind.wrap .i64 ((y12.2) + 1)))) = y)))
theorem q44_tree (a0 : Int) (y : Int × Int × Int) : acall q44_cx okT q44_lp 60 (.fn 44 [] []) [(V.int .i64 a0)] [] (leafK (.agg (.cons (.int .i64) (.cons (.int .i64) (.one (.int .i64))))) y) =
    (req true (((none : Option Nat) = (none : Option Nat)) ∧ (q44_0_body = q44_0_body) ∧ ∃ z5 : curfewref04_At_l0_Z, ∃ z5q : q44_0_Q, ∃ y6 : curfewref04_At_l0_Y, (2 = 2) ∧ (∃ zc : q44_0_C, wk 2 ⟨[(0, (vi a0)), (2, (V.ptr 0 0)), (3, (V.ptr 1 0))], [(Blk.cells [(vi 0), (vi 0), (vi 0)]), (Blk.cells [(vi 1970), (vi 1), (vi 0)])], []⟩ (q44_0_st z5 z5q zc)) ∧ (∃ k, curfewref04_At_l0 k z5 y6) ∧ (((none : Option Nat) = (none : Option Nat)) ∧ (q44_1_body = q44_1_body) ∧ ∃ z11 : curfewref04_At_l1_Z, ∃ z11q : q44_1_Q, ∃ y12 : curfewref04_At_l1_Y, (2 = 2) ∧ (∃ zc : q44_1_C, wk 2 ⟨[(0, (vi (y6.2))), (2, (V.ptr 0 0)), (3, (V.ptr 1 0))], [(Blk.cells [(vi 0), (vi 0), (vi 0)]), (Blk.cells [(vi (y6.1)), (vi 1), (vi 0)])], []⟩ (q44_1_st z11 z11q zc)) ∧ (∃ k, curfewref04_At_l1 k z11 y12) ∧ (rqn 4 (req true (((z11.1), ((y12.1), (wI ((y12.2) + 1)))) = y)))))) := by kernel_rfl
theorem q44_run (a0 : Int) (y : Int × Int × Int) (h : curfewref04_At_R a0 y) : acall q44_cx okT q44_lp 60 (.fn 44 [] []) [(V.int .i64 a0)] [] (leafK (.agg (.cons (.int .i64) (.cons (.int .i64) (.one (.int .i64))))) y) := by
  refine cast (q44_tree a0 y).symm ?_
  unfold curfewref04_At_R at h
  refine req_intro rfl ?_
  obtain ⟨y6, ry6, h⟩ := h
  refine ⟨rfl, rfl, (1970, a0), (), y6, rfl, ⟨(), wk_of (Or.inr ⟨⟨Or.inl rfl, Or.inl rfl, Or.inl rfl, trivial⟩, ⟨Or.inl rfl, Or.inl rfl, trivial⟩, rfl, rfl, rfl⟩)⟩, ry6, ?_⟩
  obtain ⟨y12, ry12, h⟩ := h
  refine ⟨rfl, rfl, ((y6.1), 1, (y6.2)), (), y12, rfl, ⟨(), wk_of (Or.inr ⟨⟨Or.inl rfl, Or.inl rfl, Or.inl rfl, trivial⟩, ⟨Or.inl rfl, Or.inl rfl, trivial⟩, rfl, rfl, rfl⟩)⟩, ry12, ?_⟩
  refine rqn_intro 4 ?_
  exact req_intro rfl h
theorem curfewref04_At_ok : FxOk Tryd.prog gsT 44 (.one (.int .i64)) (.agg (.cons (.int .i64) (.cons (.int .i64) (.one (.int .i64))))) fun x y => curfewref04_At_R x y := fx_of (c := q44_cx) (ty_ok rfl) (eq_ok rfl) q44_fns follows_ok (ok := okT) (lp := q44_lp) (n := 60) q44_lpok (enters Tryd.func44 (by kernel_rfl) rfl) (fun y => ⟨_, rfl⟩) fun x y h => q44_run _ y h
noncomputable def q80_cx : Cx := ⟨tyT, [(80, .body Tryd.f80)], gsT, eqT⟩
theorem q80_fns : FnsOk Tryd.prog q80_cx := Fns_assoc ⟨body_ent Tryd.func80 (by kernel_rfl) (by kernel_rfl), trivial⟩
def curfewref04_Weekday_R (a0 : Int) (y : Int) : Prop :=
  ((Int.tmod (IntKind.wrap .i64 ((Int.tmod a0 7) + 4)) 7) = y)
theorem q80_tree (a0 : Int) (y : Int) : acall q80_cx okT lpT 60 (.fn 80 [] []) [(V.int .i64 a0)] [] (leafK (.int .i64) y) =
    (rqn 6 (req true ((Int.tmod (wI ((Int.tmod a0 7) + 4)) 7) = y))) := by kernel_rfl
theorem q80_run (a0 : Int) (y : Int) (h : curfewref04_Weekday_R a0 y) : acall q80_cx okT lpT 60 (.fn 80 [] []) [(V.int .i64 a0)] [] (leafK (.int .i64) y) := by
  refine cast (q80_tree a0 y).symm ?_
  unfold curfewref04_Weekday_R at h
  refine rqn_intro 6 ?_
  exact req_intro rfl h
theorem curfewref04_Weekday_ok : FxOk Tryd.prog gsT 80 (.one (.int .i64)) (.int .i64) fun x y => curfewref04_Weekday_R x y := fx_of (c := q80_cx) (ty_ok rfl) (eq_ok rfl) q80_fns follows_ok (ok := okT) (lp := lpT) (n := 60) lp_ok (enters Tryd.func80 (by kernel_rfl) rfl) (fun y => ⟨_, rfl⟩) fun x y h => q80_run _ y h
noncomputable def q45_cx : Cx := ⟨tyT, [(45, .body Tryd.f45),
  (73, .fx (.one (.int .u64)) (.nw (.int .i64) 3) fun x y => curfewref01_All_R x y),
  (74, .fx (.cons (.int .u64) (.one (.int .i64))) .bool fun x y => curfewref01_Has_R (x.1) (x.2) y),
  (80, .fx (.one (.int .i64)) (.int .i64) fun x y => curfewref04_Weekday_R x y)], gsT, eqT⟩
theorem q45_fns : FnsOk Tryd.prog q45_cx := Fns_assoc ⟨body_ent Tryd.func45 (by kernel_rfl) (by kernel_rfl), curfewref01_All_ok, curfewref01_Has_ok, curfewref04_Weekday_ok, trivial⟩
def curfewref08_fits_R (a0 : Int) (a1 : Int) (a2 : Int) (a3 : Int) (a4 : Int) (a5 : Int) (a6 : Int) (a7 : Int) (a8 : Int) (y : Bool) : Prop :=
  (∃ y1 : Bool, (curfewref01_Has_R a3 a6 y1) ∧ (br (!y1) (false = y) (∃ y2 : Bool, (curfewref01_Has_R a2 a7 y2) ∧ (∃ y3 : Int, (curfewref04_Weekday_R a8 y3) ∧ (∃ y4 : Bool, (curfewref01_Has_R a4 y3 y4) ∧ (∃ y5 : List Int, (curfewref01_All_R a2 y5) ∧ (br ((((List.length y5) : Nat) : Int) == 31) (br y2 (y4 = y) (false = y)) (∃ y7 : List Int, (curfewref01_All_R a4 y7) ∧ (br ((((List.length y7) : Nat) : Int) == 7) (br y2 (y4 = y) (false = y)) (br y2 (true = y) (y4 = y)))))))))))
theorem q45_tree (a0 : Int) (a1 : Int) (a2 : Int) (a3 : Int) (a4 : Int) (a5 : Int) (a6 : Int) (a7 : Int) (a8 : Int) (y : Bool) : acall q45_cx okT lpT 60 (.fn 45 [] []) [(V.agg [(V.int .u64 a0), (V.int .u64 a1), (V.int .u64 a2), (V.int .u64 a3), (V.int .u64 a4)]), (V.agg [(V.int .i64 a5), (V.int .i64 a6), (V.int .i64 a7)]), (V.int .i64 a8)] [] (leafK .bool y) =
    (rqn 6 (∃ y1 : Bool, (curfewref01_Has_R a3 a6 y1) ∧ (req true (br (!y1) (req true (req true (false = y))) (rqn 6 (∃ y2 : Bool, (curfewref01_Has_R a2 a7 y2) ∧ (rqn 4 (∃ y3 : Int, (curfewref04_Weekday_R a8 y3) ∧ (req true (∃ y4 : Bool, (curfewref01_Has_R a4 y3 y4) ∧ (rqn 5 (∃ y5 : List Int, (curfewref01_All_R a2 y5) ∧ (∀ c6 : Nat, (rqn 3 (br ((((List.length y5) : Nat) : Int) == 31) (rqn 3 (br y2 (rqn 3 (req true (y4 = y))) (rqn 2 (req true (false = y))))) (rqn 3 (∃ y7 : List Int, (curfewref01_All_R a4 y7) ∧ (∀ c8 : Nat, (rqn 3 (br ((((List.length y7) : Nat) : Int) == 7) (rqn 2 (br y2 (rqn 3 (req true (y4 = y))) (rqn 2 (req true (false = y))))) (rqn 2 (br y2 (rqn 2 (req true (true = y))) (rqn 3 (req true (y4 = y))))))))))))))))))))))))) := by kernel_rfl
theorem q45_run (a0 : Int) (a1 : Int) (a2 : Int) (a3 : Int) (a4 : Int) (a5 : Int) (a6 : Int) (a7 : Int) (a8 : Int) (y : Bool) (h : curfewref08_fits_R a0 a1 a2 a3 a4 a5 a6 a7 a8 y) : acall q45_cx okT lpT 60 (.fn 45 [] []) [(V.agg [(V.int .u64 a0), (V.int .u64 a1), (V.int .u64 a2), (V.int .u64 a3), (V.int .u64 a4)]), (V.agg [(V.int .i64 a5), (V.int .i64 a6), (V.int .i64 a7)]), (V.int .i64 a8)] [] (leafK .bool y) := by
  refine cast (q45_tree a0 a1 a2 a3 a4 a5 a6 a7 a8 y).symm ?_
  unfold curfewref08_fits_R at h
  refine rqn_intro 6 ?_
  refine ex_both h fun y1 h => ?_
  refine req_intro rfl ?_
  refine br_both h (fun hb h => ?_) (fun hb h => ?_)
  · refine req_intro rfl ?_
    exact req_intro rfl h
  · refine rqn_intro 6 ?_
    refine ex_both h fun y2 h => ?_
    refine rqn_intro 4 ?_
    refine ex_both h fun y3 h => ?_
    refine req_intro rfl ?_
    refine ex_both h fun y4 h => ?_
    refine rqn_intro 5 ?_
    refine ex_both h fun y5 h => ?_
    intro c6
    refine rqn_intro 3 ?_
    refine br_both h (fun hb h => ?_) (fun hb h => ?_)
    · refine rqn_intro 3 ?_
      refine br_both h (fun hb h => ?_) (fun hb h => ?_)
      · refine rqn_intro 3 ?_
        exact req_intro rfl h
      · refine rqn_intro 2 ?_
        exact req_intro rfl h
    · refine rqn_intro 3 ?_
      refine ex_both h fun y7 h => ?_
      intro c8
      refine rqn_intro 3 ?_
      refine br_both h (fun hb h => ?_) (fun hb h => ?_)
      · refine rqn_intro 2 ?_
        refine br_both h (fun hb h => ?_) (fun hb h => ?_)
        · refine rqn_intro 3 ?_
          exact req_intro rfl h
        · refine rqn_intro 2 ?_
          exact req_intro rfl h
      · refine rqn_intro 2 ?_
        refine br_both h (fun hb h => ?_) (fun hb h => ?_)
        · refine rqn_intro 2 ?_
          exact req_intro rfl h
        · refine rqn_intro 3 ?_
          exact req_intro rfl h
theorem curfewref08_fits_ok : FxOk Tryd.prog gsT 45 (.cons (.agg (.cons (.int .u64) (.cons (.int .u64) (.cons (.int .u64) (.cons (.int .u64) (.one (.int .u64))))))) (.cons (.agg (.cons (.int .i64) (.cons (.int .i64) (.one (.int .i64))))) (.one (.int .i64)))) .bool fun x y => curfewref08_fits_R (x.1.1) (x.1.2.1) (x.1.2.2.1) (x.1.2.2.2.1) (x.1.2.2.2.2) (x.2.1.1) (x.2.1.2.1) (x.2.1.2.2) (x.2.2) y := fx_of (c := q45_cx) (ty_ok rfl) (eq_ok rfl) q45_fns follows_ok (ok := okT) (lp := lpT) (n := 60) lp_ok (enters Tryd.func45 (by kernel_rfl) rfl) (fun y => ⟨_, rfl⟩) fun x y h => q45_run _ _ _ _ _ _ _ _ _ y h
noncomputable def q46_cx : Cx := ⟨tyT, [(46, .body Tryd.f46),
  (73, .fx (.one (.int .u64)) (.nw (.int .i64) 3) fun x y => curfewref01_All_R x y)], gsT, eqT⟩
theorem q46_fns : FnsOk Tryd.prog q46_cx := Fns_assoc ⟨body_ent Tryd.func46 (by kernel_rfl) (by kernel_rfl), curfewref01_All_ok, trivial⟩
noncomputable def q46_0_body : Code := subC [1, 1, 0, 1, 0, 0, 1, 1, 0, 0, 1, 1, 0, 0] (bodyOf Tryd.f46)
abbrev curfewref08_On_l0_Z : Type := List Int × List Int × List Int × Int × Int × Int × Int × Int × Int × Int × Int × Int × Int × Int
abbrev curfewref08_On_l0_Y : Type := List Int
abbrev q46_0_C : Type := Nat
abbrev q46_0_Q : Type := Nat × Nat
noncomputable def q46_0_st (z7 : curfewref08_On_l0_Z) (z7q : q46_0_Q) (z7c : q46_0_C) : S := ⟨[(1, (vi (z7.2.2.2.2.2.2.2.2.1))), (2, (V.ptr 0 0)), (5, (V.row 4 1 (List.length (z7.2.2.1)) z7c)), (7, (vi (z7.2.2.2.2.2.2.2.2.2.1))), (12, (V.row 1 1 (List.length (z7.1)) (z7q.1))), (13, (vi (z7.2.2.2.2.2.2.2.2.2.2.1))), (14, (vi (z7.2.2.2.2.2.2.2.2.2.2.2.1))), (20, (V.row 3 1 (List.length (z7.2.1)) (z7q.2))), (21, (vi (z7.2.2.2.2.2.2.2.2.2.2.2.2.1))), (22, (vi (z7.2.2.2.2.2.2.2.2.2.2.2.2.2)))], [(Blk.cells [(vu (z7.2.2.2.1)), (vu (z7.2.2.2.2.1)), (vu (z7.2.2.2.2.2.1)), (vu (z7.2.2.2.2.2.2.1)), (vu (z7.2.2.2.2.2.2.2.1))]), (Blk.row (.int .i64) (z7.1) 3 (z7q.1)), Blk.dead, (Blk.row (.int .i64) (z7.2.1) 3 (z7q.2)), (Blk.row (.int .i64) (z7.2.2.1) 2 z7c)], []⟩
def q46_0_K (K : Ret → S → Prop) (z7 : curfewref08_On_l0_Z) (z7q : q46_0_Q) (y8 : curfewref08_On_l0_Y) : Prop := (∀ y8c : Nat, K (.exit 2) ⟨[(1, (vi (z7.2.2.2.2.2.2.2.2.1))), (2, (V.ptr 0 0)), (5, (V.row 4 1 (List.length y8) y8c)), (12, (V.row 1 1 (List.length (z7.1)) (z7q.1))), (13, (vi (z7.2.2.2.2.2.2.2.2.2.2.1))), (14, (vi (z7.2.2.2.2.2.2.2.2.2.2.2.1)))], [(Blk.cells [(vu (z7.2.2.2.1)), (vu (z7.2.2.2.2.1)), (vu (z7.2.2.2.2.2.1)), (vu (z7.2.2.2.2.2.2.1)), (vu (z7.2.2.2.2.2.2.2.1))]), (Blk.row (.int .i64) (z7.1) 3 (z7q.1)), Blk.dead, (Blk.row (.int .i64) (z7.2.1) 3 (z7q.2)), (Blk.row (.int .i64) y8 2 y8c)], []⟩)
def curfewref08_On_l0 : Nat → curfewref08_On_l0_Z → curfewref08_On_l0_Y → Prop
  | 0, _, _ => False
  | k + 1, (z7x0, z7x1, z7x2, z7x3, z7x4, z7x5, z7x6, z7x7, z7x8, z7x9, z7x10, z7x11, z7x12, z7x13), y8_ => (br (decide (z7x13 < z7x12)) (req ((decide (0 ≤ z7x13)) && (decide (z7x13 < (((List.length z7x1) : Nat) : Int)))) (req (Nat.blt (Int.toNat z7x13) (List.length z7x1)) (req (Nat.ble ((List.length (z7x2 ++ [(IntKind.wrap .i64 ((IntKind.wrap .i64 ((IntKind.wrap .i64 (z7x8 * 86400)) + (IntKind.wrap .i64 (z7x9 * 3600)))) + (IntKind.wrap .i64 ((List.getD z7x1 (Int.toNat z7x13) 0) * 60))))])) * 9) 140737488355328) (curfewref08_On_l0 k (z7x0, z7x1, (z7x2 ++ [(IntKind.wrap .i64 ((IntKind.wrap .i64 ((IntKind.wrap .i64 (z7x8 * 86400)) + (IntKind.wrap .i64 (z7x9 * 3600)))) + (IntKind.wrap .i64 ((List.getD z7x1 (Int.toNat z7x13) 0) * 60))))]), z7x3, z7x4, z7x5, z7x6, z7x7, z7x8, z7x9, z7x10, z7x11, z7x12, (IntKind.wrap .i64 (z7x13 + 1))) y8_)))) (z7x2 = y8_))
def curfewref08_On_l0_L (z : curfewref08_On_l0_Z) (y : curfewref08_On_l0_Y) : Prop := ∃ k, curfewref08_On_l0 k z y
noncomputable def q46_0_lp : Lp := .auto none q46_0_body (loopG 4 q46_0_st (fun z y => ∃ k, curfewref08_On_l0 k z y) q46_0_K)
noncomputable def q46_1_body : Code := subC [1, 1, 0, 1, 0, 0] (bodyOf Tryd.f46)
abbrev curfewref08_On_l1_Z : Type := List Int × List Int × Int × Int × Int × Int × Int × Int × Int × Int
abbrev curfewref08_On_l1_Y : Type := List Int
abbrev q46_1_C : Type := Nat
abbrev q46_1_Q : Type := Nat
noncomputable def q46_1_st (z3 : curfewref08_On_l1_Z) (z3q : q46_1_Q) (z3c : q46_1_C) : S := ⟨[(1, (vi (z3.2.2.2.2.2.2.2.1))), (2, (V.ptr 0 0)), (5, (V.row 2 1 (List.length (z3.2.1)) z3c)), (12, (V.row 1 1 (List.length (z3.1)) z3q)), (13, (vi (z3.2.2.2.2.2.2.2.2.1))), (14, (vi (z3.2.2.2.2.2.2.2.2.2)))], [(Blk.cells [(vu (z3.2.2.1)), (vu (z3.2.2.2.1)), (vu (z3.2.2.2.2.1)), (vu (z3.2.2.2.2.2.1)), (vu (z3.2.2.2.2.2.2.1))]), (Blk.row (.int .i64) (z3.1) 3 z3q), (Blk.row (.int .i64) (z3.2.1) 2 z3c)], []⟩
def q46_1_K (K : Ret → S → Prop) (z3 : curfewref08_On_l1_Z) (z3q : q46_1_Q) (y4 : curfewref08_On_l1_Y) : Prop := (∀ y4c : Nat, K (.exit 0) ⟨[(5, (V.row 2 1 (List.length y4) y4c))], [(Blk.cells [(vu (z3.2.2.1)), (vu (z3.2.2.2.1)), (vu (z3.2.2.2.2.1)), (vu (z3.2.2.2.2.2.1)), (vu (z3.2.2.2.2.2.2.1))]), (Blk.row (.int .i64) (z3.1) 3 z3q), (Blk.row (.int .i64) y4 2 y4c)], []⟩)
def curfewref08_On_l1 : Nat → curfewref08_On_l1_Z → curfewref08_On_l1_Y → Prop
  | 0, _, _ => False
  | k + 1, (z3x0, z3x1, z3x2, z3x3, z3x4, z3x5, z3x6, z3x7, z3x8, z3x9), y4_ => (br (decide (z3x9 < z3x8)) (req ((decide (0 ≤ z3x9)) && (decide (z3x9 < (((List.length z3x0) : Nat) : Int)))) (req (Nat.blt (Int.toNat z3x9) (List.length z3x0)) (∃ y5 : List Int, (curfewref01_All_R z3x2 y5) ∧ (∃ y11 : curfewref08_On_l0_Y, curfewref08_On_l0_L (z3x0, y5, z3x1, z3x2, z3x3, z3x4, z3x5, z3x6, z3x7, (List.getD z3x0 (Int.toNat z3x9) 0), z3x8, z3x9, (((List.length y5) : Nat) : Int), 0) y11 ∧ (curfewref08_On_l1 k (z3x0, y11, z3x2, z3x3, z3x4, z3x5, z3x6, z3x7, z3x8, (IntKind.wrap .i64 (z3x9 + 1))) y4_))))) (z3x1 = y4_))
def curfewref08_On_l1_L (z : curfewref08_On_l1_Z) (y : curfewref08_On_l1_Y) : Prop := ∃ k, curfewref08_On_l1 k z y
noncomputable def q46_1_lp : Lp := .auto none q46_1_body (loopG 2 q46_1_st (fun z y => ∃ k, curfewref08_On_l1 k z y) q46_1_K)
noncomputable def q46_lp : Nat → FuncId → Nat → Nat → Lp := lpTab [(46, 6, 4, 0, q46_0_lp), (46, 3, 2, 1, q46_1_lp)]
theorem q46_0_round (n : Nat) (z7x0 : List Int) (z7x1 : List Int) (z7x2 : List Int) (z7x3 : Int) (z7x4 : Int) (z7x5 : Int) (z7x6 : Int) (z7x7 : Int) (z7x8 : Int) (z7x9 : Int) (z7x10 : Int) (z7x11 : Int) (z7x12 : Int) (z7x13 : Int) (z7q0 : Nat) (z7q1 : Nat) (z7k0 : Nat) (K : Ret → S → Prop) (next : S → Prop) : acode q46_cx 46 (acall q46_cx okT q46_lp (n + 0)) (okT 46) (q46_lp (n + 0) 46) none q46_0_body (iterK (wkK 4 K) next) (q46_0_st (z7x0, z7x1, z7x2, z7x3, z7x4, z7x5, z7x6, z7x7, z7x8, z7x9, z7x10, z7x11, z7x12, z7x13) (z7q0, z7q1) z7k0) =
    (req true (br (decide (z7x13 < z7x12)) (req ((decide (0 ≤ z7x13)) && (decide (z7x13 < (((List.length z7x1) : Nat) : Int)))) (req (Nat.blt (Int.toNat z7x13) (List.length z7x1)) (rqn 10 (req (((((true && true) && true) && (Nat.beq (List.length z7x2) (List.length z7x2))) && (Nat.beq z7k0 z7k0)) && (Nat.ble ((List.length (z7x2 ++ [(wI ((wI ((wI (z7x8 * 86400)) + (wI (z7x9 * 3600)))) + (wI ((List.getD z7x1 (Int.toNat z7x13) 0) * 60))))])) * 9) 140737488355328)) (∀ c9 : Nat, (rqn 3 (next ⟨[(1, (vi z7x8)), (2, (V.ptr 0 0)), (5, (V.row 6 1 (List.length (z7x2 ++ [(wI ((wI ((wI (z7x8 * 86400)) + (wI (z7x9 * 3600)))) + (wI ((List.getD z7x1 (Int.toNat z7x13) 0) * 60))))])) c9)), (7, (vi z7x9)), (12, (V.row 1 1 (List.length z7x0) z7q0)), (13, (vi z7x10)), (14, (vi z7x11)), (20, (V.row 3 1 (List.length z7x1) z7q1)), (21, (vi z7x12)), (22, (vi (wI (z7x13 + 1)))), (23, (vb (decide (z7x13 < z7x12)))), (9, (vi (List.getD z7x1 (Int.toNat z7x13) 0)))], [(Blk.cells [(vu z7x3), (vu z7x4), (vu z7x5), (vu z7x6), (vu z7x7)]), (Blk.row (.int .i64) z7x0 3 z7q0), Blk.dead, (Blk.row (.int .i64) z7x1 3 z7q1), Blk.dead, (Blk.cells [(vi (wI ((wI ((wI (z7x8 * 86400)) + (wI (z7x9 * 3600)))) + (wI ((List.getD z7x1 (Int.toNat z7x13) 0) * 60)))))]), (Blk.row (.int .i64) (z7x2 ++ [(wI ((wI ((wI (z7x8 * 86400)) + (wI (z7x9 * 3600)))) + (wI ((List.getD z7x1 (Int.toNat z7x13) 0) * 60))))]) 2 c9)], []⟩))))))) (wkK 4 K (.exit 2) ⟨[(1, (vi z7x8)), (2, (V.ptr 0 0)), (5, (V.row 4 1 (List.length z7x2) z7k0)), (7, (vi z7x9)), (12, (V.row 1 1 (List.length z7x0) z7q0)), (13, (vi z7x10)), (14, (vi z7x11)), (20, (V.row 3 1 (List.length z7x1) z7q1)), (21, (vi z7x12)), (22, (vi z7x13)), (23, (vb (decide (z7x13 < z7x12))))], [(Blk.cells [(vu z7x3), (vu z7x4), (vu z7x5), (vu z7x6), (vu z7x7)]), (Blk.row (.int .i64) z7x0 3 z7q0), Blk.dead, (Blk.row (.int .i64) z7x1 3 z7q1), (Blk.row (.int .i64) z7x2 2 z7k0)], []⟩))) := by kernel_rfl
theorem q46_0_ok (n : Nat) : Owed q46_cx okT 46 q46_lp (n + 0) q46_0_lp := loop_owed (fun z y h => h) fun k zz qq z7k0 y8_ K h hK next hnext => by
  obtain ⟨z7x0, z7x1, z7x2, z7x3, z7x4, z7x5, z7x6, z7x7, z7x8, z7x9, z7x10, z7x11, z7x12, z7x13⟩ := zz
  obtain ⟨z7q0, z7q1⟩ := qq
  refine cast (q46_0_round n z7x0 z7x1 z7x2 z7x3 z7x4 z7x5 z7x6 z7x7 z7x8 z7x9 z7x10 z7x11 z7x12 z7x13 z7q0 z7q1 z7k0 K next).symm ?_
  simp only [curfewref08_On_l0] at h
  refine req_intro rfl ?_
  refine br_both h (fun hb h => ?_) (fun hb h => ?_)
  · obtain ⟨q, h⟩ := req_of h
    refine req_intro (band (band_l q) (band_r q)) ?_
    obtain ⟨q, h⟩ := req_of h
    refine req_intro q ?_
    refine rqn_intro 10 ?_
    obtain ⟨q, h⟩ := req_of h
    refine req_intro (band (band (band (band (band rfl rfl) rfl) (Nat.beq_refl _)) (Nat.beq_refl _)) q) ?_
    intro c9
    refine rqn_intro 3 ?_
    exact hnext (z7x0, z7x1, (z7x2 ++ [(wI ((wI ((wI (z7x8 * 86400)) + (wI (z7x9 * 3600)))) + (wI ((List.getD z7x1 (Int.toNat z7x13) 0) * 60))))]), z7x3, z7x4, z7x5, z7x6, z7x7, z7x8, z7x9, z7x10, z7x11, z7x12, (wI (z7x13 + 1))) _ h hK ⟨c9, ⟨_, ⟨[(1, (vi z7x8)), (2, (V.ptr 0 0)), (5, (V.row 4 1 (List.length (z7x2 ++ [(wI ((wI ((wI (z7x8 * 86400)) + (wI (z7x9 * 3600)))) + (wI ((List.getD z7x1 (Int.toNat z7x13) 0) * 60))))])) c9)), (7, (vi z7x9)), (12, (V.row 1 1 (List.length z7x0) z7q0)), (13, (vi z7x10)), (14, (vi z7x11)), (20, (V.row 3 1 (List.length z7x1) z7q1)), (21, (vi z7x12)), (22, (vi (wI (z7x13 + 1))))], [(Blk.cells [(vu z7x3), (vu z7x4), (vu z7x5), (vu z7x6), (vu z7x7)]), (Blk.row (.int .i64) z7x0 3 z7q0), Blk.dead, (Blk.row (.int .i64) z7x1 3 z7q1), (Blk.row (.int .i64) (z7x2 ++ [(wI ((wI ((wI (z7x8 * 86400)) + (wI (z7x9 * 3600)))) + (wI ((List.getD z7x1 (Int.toNat z7x13) 0) * 60))))]) 2 c9)], []⟩, ⟨[], rfl, rfl⟩, Or.inr ⟨[0, 1, 2, 3, 6], rfl, rfl, rfl, rfl, rfl, ⟨rfl, rfl, rfl, rfl, rfl, rfl, rfl, rfl, rfl, rfl, trivial⟩, ⟨Or.inr rfl, Or.inr rfl, Or.inl rfl, Or.inr rfl, Or.inr rfl, trivial⟩, rfl, rfl⟩, Or.inr ⟨⟨Or.inl rfl, Or.inl rfl, Or.inl rfl, Or.inl rfl, Or.inl rfl, Or.inl rfl, Or.inl rfl, Or.inl rfl, Or.inl rfl, Or.inl rfl, trivial⟩, ⟨Or.inl rfl, Or.inl rfl, Or.inl rfl, Or.inl rfl, Or.inl rfl, trivial⟩, rfl, rfl, rfl⟩⟩⟩
  · subst h
    refine ⟨_, ?_, hK z7k0⟩
    exact wk_of (Or.inr ⟨⟨Or.inl rfl, Or.inl rfl, Or.inl rfl, Or.inl rfl, Or.inl rfl, Or.inl rfl, trivial⟩, ⟨Or.inl rfl, Or.inl rfl, Or.inl rfl, Or.inl rfl, Or.inl rfl, trivial⟩, rfl, rfl, rfl⟩)
theorem q46_1_round (n : Nat) (z3x0 : List Int) (z3x1 : List Int) (z3x2 : Int) (z3x3 : Int) (z3x4 : Int) (z3x5 : Int) (z3x6 : Int) (z3x7 : Int) (z3x8 : Int) (z3x9 : Int) (z3q0 : Nat) (z3k0 : Nat) (K : Ret → S → Prop) (next : S → Prop) : acode q46_cx 46 (acall q46_cx okT q46_lp (n + 1)) (okT 46) (q46_lp (n + 1) 46) none q46_1_body (iterK (wkK 2 K) next) (q46_1_st (z3x0, z3x1, z3x2, z3x3, z3x4, z3x5, z3x6, z3x7, z3x8, z3x9) z3q0 z3k0) =
    (req true (br (decide (z3x9 < z3x8)) (req ((decide (0 ≤ z3x9)) && (decide (z3x9 < (((List.length z3x0) : Nat) : Int)))) (req (Nat.blt (Int.toNat z3x9) (List.length z3x0)) (rqn 4 (∃ y5 : List Int, (curfewref01_All_R z3x2 y5) ∧ (∀ c6 : Nat, (rqn 2 (((none : Option Nat) = (none : Option Nat)) ∧ (q46_0_body = q46_0_body) ∧ ∃ z10 : curfewref08_On_l0_Z, ∃ z10q : q46_0_Q, ∃ y11 : curfewref08_On_l0_Y, (4 = 4) ∧ (∃ zc : q46_0_C, wk 4 ⟨[(1, (vi z3x7)), (2, (V.ptr 0 0)), (5, (V.row 2 1 (List.length z3x1) z3k0)), (12, (V.row 1 1 (List.length z3x0) z3q0)), (13, (vi z3x8)), (14, (vi z3x9)), (15, (vb (decide (z3x9 < z3x8)))), (7, (vi (List.getD z3x0 (Int.toNat z3x9) 0))), (20, (V.row 3 1 (List.length y5) c6)), (21, (vi (((List.length y5) : Nat) : Int))), (22, (vi 0))], [(Blk.cells [(vu z3x2), (vu z3x3), (vu z3x4), (vu z3x5), (vu z3x6)]), (Blk.row (.int .i64) z3x0 3 z3q0), (Blk.row (.int .i64) z3x1 2 z3k0), (Blk.row (.int .i64) y5 3 c6)], []⟩ (q46_0_st z10 z10q zc)) ∧ (∃ k, curfewref08_On_l0 k z10 y11) ∧ (∀ y11c : Nat, (rqn 2 (next ⟨[(1, (vi (z10.2.2.2.2.2.2.2.2.1))), (2, (V.ptr 0 0)), (5, (V.row 4 1 (List.length y11) y11c)), (12, (V.row 1 1 (List.length (z10.1)) (z10q.1))), (13, (vi (z10.2.2.2.2.2.2.2.2.2.2.1))), (14, (vi (wI ((z10.2.2.2.2.2.2.2.2.2.2.2.1) + 1))))], [(Blk.cells [(vu (z10.2.2.2.1)), (vu (z10.2.2.2.2.1)), (vu (z10.2.2.2.2.2.1)), (vu (z10.2.2.2.2.2.2.1)), (vu (z10.2.2.2.2.2.2.2.1))]), (Blk.row (.int .i64) (z10.1) 3 (z10q.1)), Blk.dead, (Blk.row (.int .i64) (z10.2.1) 3 (z10q.2)), (Blk.row (.int .i64) y11 2 y11c)], []⟩)))))))))) (wkK 2 K (.exit 0) ⟨[(1, (vi z3x7)), (2, (V.ptr 0 0)), (5, (V.row 2 1 (List.length z3x1) z3k0)), (12, (V.row 1 1 (List.length z3x0) z3q0)), (13, (vi z3x8)), (14, (vi z3x9)), (15, (vb (decide (z3x9 < z3x8))))], [(Blk.cells [(vu z3x2), (vu z3x3), (vu z3x4), (vu z3x5), (vu z3x6)]), (Blk.row (.int .i64) z3x0 3 z3q0), (Blk.row (.int .i64) z3x1 2 z3k0)], []⟩))) := by kernel_rfl
theorem q46_1_ok (n : Nat) : Owed q46_cx okT 46 q46_lp (n + 1) q46_1_lp := loop_owed (fun z y h => h) fun k zz z3q0 z3k0 y4_ K h hK next hnext => by
  obtain ⟨z3x0, z3x1, z3x2, z3x3, z3x4, z3x5, z3x6, z3x7, z3x8, z3x9⟩ := zz
  refine cast (q46_1_round n z3x0 z3x1 z3x2 z3x3 z3x4 z3x5 z3x6 z3x7 z3x8 z3x9 z3q0 z3k0 K next).symm ?_
  simp only [curfewref08_On_l1] at h
  refine req_intro rfl ?_
  refine br_both h (fun hb h => ?_) (fun hb h => ?_)
  · obtain ⟨q, h⟩ := req_of h
    refine req_intro (band (band_l q) (band_r q)) ?_
    obtain ⟨q, h⟩ := req_of h
    refine req_intro q ?_
    refine rqn_intro 4 ?_
    refine ex_both h fun y5 h => ?_
    intro c6
    refine rqn_intro 2 ?_
    obtain ⟨y11, ry11, h⟩ := h
    refine ⟨rfl, rfl, (z3x0, y5, z3x1, z3x2, z3x3, z3x4, z3x5, z3x6, z3x7, (List.getD z3x0 (Int.toNat z3x9) 0), z3x8, z3x9, (((List.length y5) : Nat) : Int), 0), (z3q0, c6), y11, rfl, ⟨z3k0, ⟨_, ⟨[(1, (vi z3x7)), (2, (V.ptr 0 0)), (5, (V.row 4 1 (List.length z3x1) z3k0)), (7, (vi (List.getD z3x0 (Int.toNat z3x9) 0))), (12, (V.row 1 1 (List.length z3x0) z3q0)), (13, (vi z3x8)), (14, (vi z3x9)), (20, (V.row 3 1 (List.length y5) c6)), (21, (vi (((List.length y5) : Nat) : Int))), (22, (vi 0))], [(Blk.cells [(vu z3x2), (vu z3x3), (vu z3x4), (vu z3x5), (vu z3x6)]), (Blk.row (.int .i64) z3x0 3 z3q0), Blk.dead, (Blk.row (.int .i64) y5 3 c6), (Blk.row (.int .i64) z3x1 2 z3k0)], []⟩, ⟨[], rfl, rfl⟩, Or.inr ⟨[0, 1, 2, 3, 2], rfl, rfl, rfl, rfl, rfl, ⟨rfl, rfl, rfl, rfl, rfl, rfl, rfl, rfl, rfl, rfl, trivial⟩, ⟨Or.inr rfl, Or.inr rfl, Or.inl rfl, Or.inr rfl, Or.inr rfl, trivial⟩, rfl, rfl⟩, Or.inr ⟨⟨Or.inl rfl, Or.inl rfl, Or.inl rfl, Or.inl rfl, Or.inl rfl, Or.inl rfl, Or.inl rfl, Or.inl rfl, Or.inl rfl, Or.inl rfl, trivial⟩, ⟨Or.inl rfl, Or.inl rfl, Or.inl rfl, Or.inl rfl, Or.inl rfl, trivial⟩, rfl, rfl, rfl⟩⟩⟩, ry11, ?_⟩
    intro y11c
    refine rqn_intro 2 ?_
    exact hnext (z3x0, y11, z3x2, z3x3, z3x4, z3x5, z3x6, z3x7, z3x8, (wI (z3x9 + 1))) _ h hK ⟨y11c, ⟨_, ⟨[(1, (vi z3x7)), (2, (V.ptr 0 0)), (5, (V.row 2 1 (List.length y11) y11c)), (12, (V.row 1 1 (List.length z3x0) z3q0)), (13, (vi z3x8)), (14, (vi (wI (z3x9 + 1))))], [(Blk.cells [(vu z3x2), (vu z3x3), (vu z3x4), (vu z3x5), (vu z3x6)]), (Blk.row (.int .i64) z3x0 3 z3q0), (Blk.row (.int .i64) y11 2 y11c)], []⟩, ⟨[], rfl, rfl⟩, Or.inr ⟨[0, 1, 4], rfl, rfl, rfl, rfl, rfl, ⟨rfl, rfl, rfl, rfl, rfl, rfl, trivial⟩, ⟨Or.inr rfl, Or.inr rfl, Or.inr rfl, trivial⟩, rfl, rfl⟩, Or.inr ⟨⟨Or.inl rfl, Or.inl rfl, Or.inl rfl, Or.inl rfl, Or.inl rfl, Or.inl rfl, trivial⟩, ⟨Or.inl rfl, Or.inl rfl, Or.inl rfl, trivial⟩, rfl, rfl, rfl⟩⟩⟩
  · subst h
    refine ⟨_, ?_, hK z3k0⟩
    exact wk_of (Or.inr ⟨⟨Or.inl rfl, trivial⟩, ⟨Or.inl rfl, Or.inl rfl, Or.inl rfl, trivial⟩, rfl, rfl, rfl⟩)
theorem q46_lpok : LpOk q46_cx okT q46_lp := LpOk_tab ⟨q46_0_ok, q46_1_ok, trivial⟩
def curfewref08_On_R (a0 : Int) (a1 : Int) (a2 : Int) (a3 : Int) (a4 : Int) (a5 : Int) (y : List Int) : Prop :=
  (∃ y1 : List Int, (curfewref01_All_R a1 y1) ∧ (∃ y13 : curfewref08_On_l1_Y, curfewref08_On_l1_L (y1, [], a0, a1, a2, a3, a4, a5, (((List.length y1) : Nat) : Int), 0) y13 ∧ (y13 = y)))
theorem q46_tree (a0 : Int) (a1 : Int) (a2 : Int) (a3 : Int) (a4 : Int) (a5 : Int) (y : List Int) : acall q46_cx okT q46_lp 60 (.fn 46 [] []) [(V.agg [(V.int .u64 a0), (V.int .u64 a1), (V.int .u64 a2), (V.int .u64 a3), (V.int .u64 a4)]), (V.int .i64 a5)] [] (leafK (.nw (.int .i64) 2) y) =
    (rqn 5 (∃ y1 : List Int, (curfewref01_All_R a1 y1) ∧ (∀ c2 : Nat, (rqn 2 (((none : Option Nat) = (none : Option Nat)) ∧ (q46_1_body = q46_1_body) ∧ ∃ z12 : curfewref08_On_l1_Z, ∃ z12q : q46_1_Q, ∃ y13 : curfewref08_On_l1_Y, (2 = 2) ∧ (∃ zc : q46_1_C, wk 2 ⟨[(0, (V.agg [(vu a0), (vu a1), (vu a2), (vu a3), (vu a4)])), (1, (vi a5)), (2, (V.ptr 0 0)), (4, (V.old (.slice none 0 0))), (5, (V.old (.slice none 0 0))), (12, (V.row 1 1 (List.length y1) c2)), (13, (vi (((List.length y1) : Nat) : Int))), (14, (vi 0))], [(Blk.cells [(vu a0), (vu a1), (vu a2), (vu a3), (vu a4)]), (Blk.row (.int .i64) y1 3 c2)], []⟩ (q46_1_st z12 z12q zc)) ∧ (∃ k, curfewref08_On_l1 k z12 y13) ∧ (∀ y13c : Nat, (rqn 2 (req ((Nat.beq (List.length y13) (List.length y13)) && (Nat.beq y13c y13c)) (y13 = y))))))))) := by kernel_rfl
theorem q46_run (a0 : Int) (a1 : Int) (a2 : Int) (a3 : Int) (a4 : Int) (a5 : Int) (y : List Int) (h : curfewref08_On_R a0 a1 a2 a3 a4 a5 y) : acall q46_cx okT q46_lp 60 (.fn 46 [] []) [(V.agg [(V.int .u64 a0), (V.int .u64 a1), (V.int .u64 a2), (V.int .u64 a3), (V.int .u64 a4)]), (V.int .i64 a5)] [] (leafK (.nw (.int .i64) 2) y) := by
  refine cast (q46_tree a0 a1 a2 a3 a4 a5 y).symm ?_
  unfold curfewref08_On_R at h
  refine rqn_intro 5 ?_
  refine ex_both h fun y1 h => ?_
  intro c2
  refine rqn_intro 2 ?_
  obtain ⟨y13, ry13, h⟩ := h
  refine ⟨rfl, rfl, (y1, [], a0, a1, a2, a3, a4, a5, (((List.length y1) : Nat) : Int), 0), c2, y13, rfl, ⟨0, ⟨_, ⟨[(1, (vi a5)), (2, (V.ptr 0 0)), (5, (V.old (.slice none 0 0))), (12, (V.row 1 1 (List.length y1) c2)), (13, (vi (((List.length y1) : Nat) : Int))), (14, (vi 0))], [(Blk.cells [(vu a0), (vu a1), (vu a2), (vu a3), (vu a4)]), (Blk.row (.int .i64) y1 3 c2), Blk.dead], []⟩, ⟨[], rfl, rfl⟩, Or.inr ⟨[0, 1, 0], rfl, rfl, rfl, rfl, rfl, ⟨rfl, rfl, rfl, rfl, rfl, rfl, trivial⟩, ⟨Or.inr rfl, Or.inr rfl, Or.inl rfl, trivial⟩, rfl, rfl⟩, Or.inr ⟨⟨Or.inl rfl, Or.inl rfl, Or.inr (Or.inr (Or.inl ⟨rfl, Or.inl ⟨_, _, rfl⟩⟩)), Or.inl rfl, Or.inl rfl, Or.inl rfl, trivial⟩, ⟨Or.inl rfl, Or.inl rfl, Or.inr (Or.inr (Or.inl ⟨_, _, rfl⟩)), trivial⟩, rfl, rfl, rfl⟩⟩⟩, ry13, ?_⟩
  intro y13c
  refine rqn_intro 2 ?_
  exact req_intro (band (Nat.beq_refl _) (Nat.beq_refl _)) h
theorem curfewref08_On_ok : FxOk Tryd.prog gsT 46 (.cons (.agg (.cons (.int .u64) (.cons (.int .u64) (.cons (.int .u64) (.cons (.int .u64) (.one (.int .u64))))))) (.one (.int .i64))) (.nw (.int .i64) 2) fun x y => curfewref08_On_R (x.1.1) (x.1.2.1) (x.1.2.2.1) (x.1.2.2.2.1) (x.1.2.2.2.2) (x.2) y := fx_of (c := q46_cx) (ty_ok rfl) (eq_ok rfl) q46_fns follows_ok (ok := okT) (lp := q46_lp) (n := 60) q46_lpok (enters Tryd.func46 (by kernel_rfl) rfl) (fun y => ⟨_, rfl⟩) fun x y h => q46_run _ _ _ _ _ _ y h
noncomputable def q47_cx : Cx := ⟨tyT, [(47, .body Tryd.f47),
  (79, .fx (.cons (.int .i64) (.one (.int .i64))) (.int .i64) fun x y => curfewref04_Long_R (x.1) (x.2) y)], gsT, eqT⟩
theorem q47_fns : FnsOk Tryd.prog q47_cx := Fns_assoc ⟨body_ent Tryd.func47 (by kernel_rfl) (by kernel_rfl), curfewref04_Long_ok, trivial⟩
def curfewref08_behind_R (a0 : Int) (a1 : Int) (a2 : Int) (y : Int × Int × Int) : Prop :=
  (∃ y1 : Int, (curfewref04_Long_R a0 a1 y1) ∧ (br (decide ((IntKind.wrap .i64 (a2 + 1)) > y1)) (br (decide ((IntKind.wrap .i64 (a1 + 1)) > 12)) (((IntKind.wrap .i64 (a0 + 1)), (1, 1)) = y) ((a0, ((IntKind.wrap .i64 (a1 + 1)), 1)) = y)) (br (decide (a1 > 12)) (((IntKind.wrap .i64 (a0 + 1)), (1, (IntKind.wrap .i64 (a2 + 1)))) = y) ((a0, (a1, (IntKind.wrap .i64 (a2 + 1)))) = y))))
theorem q47_tree (a0 : Int) (a1 : Int) (a2 : Int) (y : Int × Int × Int) : acall q47_cx okT lpT 60 (.fn 47 [] []) [(V.agg [(V.int .i64 a0), (V.int .i64 a1), (V.int .i64 a2)])] [] (leafK (.agg (.cons (.int .i64) (.cons (.int .i64) (.one (.int .i64))))) y) =
    (rqn 12 (∃ y1 : Int, (curfewref04_Long_R a0 a1 y1) ∧ (req true (br (decide ((wI (a2 + 1)) > y1)) (rqn 8 (br (decide ((wI (a1 + 1)) > 12)) (rqn 6 (req true (((wI (a0 + 1)), (1, 1)) = y))) (req true (req true ((a0, ((wI (a1 + 1)), 1)) = y))))) (rqn 3 (br (decide (a1 > 12)) (rqn 6 (req true (((wI (a0 + 1)), (1, (wI (a2 + 1)))) = y))) (req true (req true ((a0, (a1, (wI (a2 + 1)))) = y))))))))) := by kernel_rfl
theorem q47_run (a0 : Int) (a1 : Int) (a2 : Int) (y : Int × Int × Int) (h : curfewref08_behind_R a0 a1 a2 y) : acall q47_cx okT lpT 60 (.fn 47 [] []) [(V.agg [(V.int .i64 a0), (V.int .i64 a1), (V.int .i64 a2)])] [] (leafK (.agg (.cons (.int .i64) (.cons (.int .i64) (.one (.int .i64))))) y) := by
  refine cast (q47_tree a0 a1 a2 y).symm ?_
  unfold curfewref08_behind_R at h
  refine rqn_intro 12 ?_
  refine ex_both h fun y1 h => ?_
  refine req_intro rfl ?_
  refine br_both h (fun hb h => ?_) (fun hb h => ?_)
  · refine rqn_intro 8 ?_
    refine br_both h (fun hb h => ?_) (fun hb h => ?_)
    · refine rqn_intro 6 ?_
      exact req_intro rfl h
    · refine req_intro rfl ?_
      exact req_intro rfl h
  · refine rqn_intro 3 ?_
    refine br_both h (fun hb h => ?_) (fun hb h => ?_)
    · refine rqn_intro 6 ?_
      exact req_intro rfl h
    · refine req_intro rfl ?_
      exact req_intro rfl h
theorem curfewref08_behind_ok : FxOk Tryd.prog gsT 47 (.one (.agg (.cons (.int .i64) (.cons (.int .i64) (.one (.int .i64)))))) (.agg (.cons (.int .i64) (.cons (.int .i64) (.one (.int .i64))))) fun x y => curfewref08_behind_R (x.1) (x.2.1) (x.2.2) y := fx_of (c := q47_cx) (ty_ok rfl) (eq_ok rfl) q47_fns follows_ok (ok := okT) (lp := lpT) (n := 60) lp_ok (enters Tryd.func47 (by kernel_rfl) rfl) (fun y => ⟨_, rfl⟩) fun x y h => q47_run _ _ _ y h
noncomputable def q19_cx : Cx := ⟨tyT, [(19, .body Tryd.f19),
  (43, .fx (.one (.int .i64)) (.int .i64) fun x y => curfewref08_Day_R x y),
  (44, .fx (.one (.int .i64)) (.agg (.cons (.int .i64) (.cons (.int .i64) (.one (.int .i64))))) fun x y => curfewref04_At_R x y),
  (45, .fx (.cons (.agg (.cons (.int .u64) (.cons (.int .u64) (.cons (.int .u64) (.cons (.int .u64) (.one (.int .u64))))))) (.cons (.agg (.cons (.int .i64) (.cons (.int .i64) (.one (.int .i64))))) (.one (.int .i64)))) .bool fun x y => curfewref08_fits_R (x.1.1) (x.1.2.1) (x.1.2.2.1) (x.1.2.2.2.1) (x.1.2.2.2.2) (x.2.1.1) (x.2.1.2.1) (x.2.1.2.2) (x.2.2) y),
  (46, .fx (.cons (.agg (.cons (.int .u64) (.cons (.int .u64) (.cons (.int .u64) (.cons (.int .u64) (.one (.int .u64))))))) (.one (.int .i64))) (.nw (.int .i64) 2) fun x y => curfewref08_On_R (x.1.1) (x.1.2.1) (x.1.2.2.1) (x.1.2.2.2.1) (x.1.2.2.2.2) (x.2) y),
  (47, .fx (.one (.agg (.cons (.int .i64) (.cons (.int .i64) (.one (.int .i64)))))) (.agg (.cons (.int .i64) (.cons (.int .i64) (.one (.int .i64))))) fun x y => curfewref08_behind_R (x.1) (x.2.1) (x.2.2) y)], gsT, eqT⟩
theorem q19_fns : FnsOk Tryd.prog q19_cx := Fns_assoc ⟨body_ent Tryd.func19 (by kernel_rfl) (by kernel_rfl), curfewref08_Day_ok, curfewref04_At_ok, curfewref08_fits_ok, curfewref08_On_ok, curfewref08_behind_ok, trivial⟩
noncomputable def q19_0_body : Code := subC [1, 1, 1, 0, 1, 0, 0, 1, 0, 0, 0, 1, 0, 1, 0, 0] (bodyOf Tryd.f19)
abbrev curfewref08_Next_l0_Z : Type := List Int × Int × Int × Int × Int × Int × Int × Int × Int × Int × Int × Int × Int × Int
abbrev curfewref08_Next_l0_Y : Type := (Int) ⊕ (Unit)
abbrev q19_0_C : Type := Unit
abbrev q19_0_Q : Type := Nat
noncomputable def q19_0_st (z8 : curfewref08_Next_l0_Z) (z8q : q19_0_Q) (z8c : q19_0_C) : S := ⟨[(1, (vi (z8.2.2.2.2.2.2.2.2.2.1))), (2, (V.ptr 0 0)), (6, (vi (z8.2.2.2.2.2.2.2.2.2.2.1))), (7, (V.ptr 1 0)), (8, (vi (z8.2.2.2.2.2.2.2.2.2.2.2.1))), (29, (V.row 2 1 (List.length (z8.1)) z8q)), (30, (vi (z8.2.2.2.2.2.2.2.2.2.2.2.2.1))), (31, (vi (z8.2.2.2.2.2.2.2.2.2.2.2.2.2)))], [(Blk.cells [(vu (z8.2.1)), (vu (z8.2.2.1)), (vu (z8.2.2.2.1)), (vu (z8.2.2.2.2.1)), (vu (z8.2.2.2.2.2.1))]), (Blk.cells [(vi (z8.2.2.2.2.2.2.1)), (vi (z8.2.2.2.2.2.2.2.1)), (vi (z8.2.2.2.2.2.2.2.2.1))]), (Blk.row (.int .i64) (z8.1) 2 z8q)], []⟩
def q19_0_K (K : Ret → S → Prop) (z8 : curfewref08_Next_l0_Z) (z8q : q19_0_Q) (y9 : curfewref08_Next_l0_Y) : Prop := sume (fun y9 => K .ret ⟨[(4, (vi y9)), (5, (vb true))], [(Blk.cells [(vu (z8.2.1)), (vu (z8.2.2.1)), (vu (z8.2.2.2.1)), (vu (z8.2.2.2.2.1)), (vu (z8.2.2.2.2.2.1))]), (Blk.cells [(vi (z8.2.2.2.2.2.2.1)), (vi (z8.2.2.2.2.2.2.2.1)), (vi (z8.2.2.2.2.2.2.2.2.1))]), (Blk.row (.int .i64) (z8.1) 2 z8q)], []⟩) (fun y9 => K (.exit 2) ⟨[(1, (vi (z8.2.2.2.2.2.2.2.2.2.1))), (2, (V.ptr 0 0)), (6, (vi (z8.2.2.2.2.2.2.2.2.2.2.1))), (7, (V.ptr 1 0)), (8, (vi (z8.2.2.2.2.2.2.2.2.2.2.2.1)))], [(Blk.cells [(vu (z8.2.1)), (vu (z8.2.2.1)), (vu (z8.2.2.2.1)), (vu (z8.2.2.2.2.1)), (vu (z8.2.2.2.2.2.1))]), (Blk.cells [(vi (z8.2.2.2.2.2.2.1)), (vi (z8.2.2.2.2.2.2.2.1)), (vi (z8.2.2.2.2.2.2.2.2.1))]), (Blk.row (.int .i64) (z8.1) 2 z8q)], []⟩) y9
def curfewref08_Next_l0 : Nat → curfewref08_Next_l0_Z → curfewref08_Next_l0_Y → Prop
  | 0, _, _ => False
  | k + 1, (z8x0, z8x1, z8x2, z8x3, z8x4, z8x5, z8x6, z8x7, z8x8, z8x9, z8x10, z8x11, z8x12, z8x13), y9_ => (br (decide (z8x13 < z8x12)) (req ((decide (0 ≤ z8x13)) && (decide (z8x13 < (((List.length z8x0) : Nat) : Int)))) (req (Nat.blt (Int.toNat z8x13) (List.length z8x0)) (br (decide ((List.getD z8x0 (Int.toNat z8x13) 0) > z8x9)) ((Sum.inl (List.getD z8x0 (Int.toNat z8x13) 0)) = y9_) (curfewref08_Next_l0 k (z8x0, z8x1, z8x2, z8x3, z8x4, z8x5, z8x6, z8x7, z8x8, z8x9, z8x10, z8x11, z8x12, (IntKind.wrap .i64 (z8x13 + 1))) y9_)))) ((Sum.inr ()) = y9_))
def curfewref08_Next_l0_L (z : curfewref08_Next_l0_Z) (y : curfewref08_Next_l0_Y) : Prop := ∃ k, curfewref08_Next_l0 k z y
noncomputable def q19_0_lp : Lp := .auto none q19_0_body (loopG 3 q19_0_st (fun z y => ∃ k, curfewref08_Next_l0 k z y) q19_0_K)
noncomputable def q19_1_body : Code := subC [1, 1, 1, 0, 1, 0, 0] (bodyOf Tryd.f19)
abbrev curfewref08_Next_l1_Z : Type := Int × Int × Int × Int × Int × Int × Int × Int × Int × Int × Int
abbrev curfewref08_Next_l1_Y : Type := (Int × Int × Int × Int) ⊕ (Int × Int × Int)
abbrev q19_1_C : Type := Unit
abbrev q19_1_Q : Type := Unit
noncomputable def q19_1_st (z3 : curfewref08_Next_l1_Z) (z3q : q19_1_Q) (z3c : q19_1_C) : S := ⟨[(1, (vi (z3.2.2.2.2.2.2.2.2.1))), (2, (V.ptr 0 0)), (6, (vi (z3.2.2.2.2.2.2.2.2.2.1))), (7, (V.ptr 1 0)), (8, (vi (z3.2.2.2.2.2.2.2.2.2.2)))], [(Blk.cells [(vu (z3.1)), (vu (z3.2.1)), (vu (z3.2.2.1)), (vu (z3.2.2.2.1)), (vu (z3.2.2.2.2.1))]), (Blk.cells [(vi (z3.2.2.2.2.2.1)), (vi (z3.2.2.2.2.2.2.1)), (vi (z3.2.2.2.2.2.2.2.1))])], []⟩
def q19_1_K (K : Ret → S → Prop) (z3 : curfewref08_Next_l1_Z) (z3q : q19_1_Q) (y4 : curfewref08_Next_l1_Y) : Prop := sume (fun y4 => K .ret ⟨[(4, (vi (y4.2.2.2))), (5, (vb true))], [(Blk.cells [(vu (z3.1)), (vu (z3.2.1)), (vu (z3.2.2.1)), (vu (z3.2.2.2.1)), (vu (z3.2.2.2.2.1))]), (Blk.cells [(vi (y4.1)), (vi (y4.2.1)), (vi (y4.2.2.1))]), Blk.dead], []⟩) (fun y4 => K (.exit 0) ⟨[], [(Blk.cells [(vu (z3.1)), (vu (z3.2.1)), (vu (z3.2.2.1)), (vu (z3.2.2.2.1)), (vu (z3.2.2.2.2.1))]), (Blk.cells [(vi (y4.1)), (vi (y4.2.1)), (vi (y4.2.2))])], []⟩) y4
def curfewref08_Next_l1 : Nat → curfewref08_Next_l1_Z → curfewref08_Next_l1_Y → Prop
  | 0, _, _ => False
  | k + 1, (z3x0, z3x1, z3x2, z3x3, z3x4, z3x5, z3x6, z3x7, z3x8, z3x9, z3x10), y4_ => (br (decide (z3x10 ≤ (if 2932896 < (IntKind.wrap .i64 (z3x9 + 2922)) then 2932896 else (IntKind.wrap .i64 (z3x9 + 2922))))) (∃ y5 : Bool, (curfewref08_fits_R z3x0 z3x1 z3x2 z3x3 z3x4 z3x5 z3x6 z3x7 z3x10 y5) ∧ (br y5 (∃ y6 : List Int, (curfewref08_On_R z3x0 z3x1 z3x2 z3x3 z3x4 z3x10 y6) ∧ (∃ y11 : curfewref08_Next_l0_Y, curfewref08_Next_l0_L (y6, z3x0, z3x1, z3x2, z3x3, z3x4, z3x5, z3x6, z3x7, z3x8, z3x9, z3x10, (((List.length y6) : Nat) : Int), 0) y11 ∧ sume (fun y11 => ((Sum.inl (z3x5, z3x6, z3x7, y11)) = y4_)) (fun y11 => (∃ y12 : Int × Int × Int, (curfewref08_behind_R z3x5 z3x6 z3x7 y12) ∧ (curfewref08_Next_l1 k (z3x0, z3x1, z3x2, z3x3, z3x4, (y12.1), ((y12.2).1), ((y12.2).2), z3x8, z3x9, (IntKind.wrap .i64 (z3x10 + 1))) y4_))) y11)) (∃ y13 : Int × Int × Int, (curfewref08_behind_R z3x5 z3x6 z3x7 y13) ∧ (curfewref08_Next_l1 k (z3x0, z3x1, z3x2, z3x3, z3x4, (y13.1), ((y13.2).1), ((y13.2).2), z3x8, z3x9, (IntKind.wrap .i64 (z3x10 + 1))) y4_)))) ((Sum.inr (z3x5, z3x6, z3x7)) = y4_))
def curfewref08_Next_l1_L (z : curfewref08_Next_l1_Z) (y : curfewref08_Next_l1_Y) : Prop := ∃ k, curfewref08_Next_l1 k z y
noncomputable def q19_1_lp : Lp := .auto none q19_1_body (loopG 2 q19_1_st (fun z y => ∃ k, curfewref08_Next_l1 k z y) q19_1_K)
noncomputable def q19_lp : Nat → FuncId → Nat → Nat → Lp := lpTab [(19, 8, 3, 0, q19_0_lp), (19, 4, 2, 1, q19_1_lp)]
theorem q19_0_round (n : Nat) (z8x0 : List Int) (z8x1 : Int) (z8x2 : Int) (z8x3 : Int) (z8x4 : Int) (z8x5 : Int) (z8x6 : Int) (z8x7 : Int) (z8x8 : Int) (z8x9 : Int) (z8x10 : Int) (z8x11 : Int) (z8x12 : Int) (z8x13 : Int) (z8q0 : Nat) (K : Ret → S → Prop) (next : S → Prop) : acode q19_cx 19 (acall q19_cx okT q19_lp (n + 0)) (okT 19) (q19_lp (n + 0) 19) none q19_0_body (iterK (wkK 3 K) next) (q19_0_st (z8x0, z8x1, z8x2, z8x3, z8x4, z8x5, z8x6, z8x7, z8x8, z8x9, z8x10, z8x11, z8x12, z8x13) z8q0 ()) =
    (req true (br (decide (z8x13 < z8x12)) (req ((decide (0 ≤ z8x13)) && (decide (z8x13 < (((List.length z8x0) : Nat) : Int)))) (req (Nat.blt (Int.toNat z8x13) (List.length z8x0)) (rqn 4 (br (decide ((List.getD z8x0 (Int.toNat z8x13) 0) > z8x9)) (rqn 3 (wkK 3 K .ret ⟨[(1, (vi z8x9)), (2, (V.ptr 0 0)), (6, (vi z8x10)), (7, (V.ptr 1 0)), (8, (vi z8x11)), (29, (V.row 2 1 (List.length z8x0) z8q0)), (30, (vi z8x12)), (31, (vi z8x13)), (32, (vb (decide (z8x13 < z8x12)))), (10, (vi (List.getD z8x0 (Int.toNat z8x13) 0))), (37, (vb (decide ((List.getD z8x0 (Int.toNat z8x13) 0) > z8x9)))), (4, (vi (List.getD z8x0 (Int.toNat z8x13) 0))), (5, (vb true))], [(Blk.cells [(vu z8x1), (vu z8x2), (vu z8x3), (vu z8x4), (vu z8x5)]), (Blk.cells [(vi z8x6), (vi z8x7), (vi z8x8)]), (Blk.row (.int .i64) z8x0 2 z8q0)], []⟩)) (rqn 2 (next ⟨[(1, (vi z8x9)), (2, (V.ptr 0 0)), (6, (vi z8x10)), (7, (V.ptr 1 0)), (8, (vi z8x11)), (29, (V.row 2 1 (List.length z8x0) z8q0)), (30, (vi z8x12)), (31, (vi (wI (z8x13 + 1)))), (32, (vb (decide (z8x13 < z8x12)))), (10, (vi (List.getD z8x0 (Int.toNat z8x13) 0))), (37, (vb (decide ((List.getD z8x0 (Int.toNat z8x13) 0) > z8x9))))], [(Blk.cells [(vu z8x1), (vu z8x2), (vu z8x3), (vu z8x4), (vu z8x5)]), (Blk.cells [(vi z8x6), (vi z8x7), (vi z8x8)]), (Blk.row (.int .i64) z8x0 2 z8q0)], []⟩)))))) (wkK 3 K (.exit 2) ⟨[(1, (vi z8x9)), (2, (V.ptr 0 0)), (6, (vi z8x10)), (7, (V.ptr 1 0)), (8, (vi z8x11)), (29, (V.row 2 1 (List.length z8x0) z8q0)), (30, (vi z8x12)), (31, (vi z8x13)), (32, (vb (decide (z8x13 < z8x12))))], [(Blk.cells [(vu z8x1), (vu z8x2), (vu z8x3), (vu z8x4), (vu z8x5)]), (Blk.cells [(vi z8x6), (vi z8x7), (vi z8x8)]), (Blk.row (.int .i64) z8x0 2 z8q0)], []⟩))) := by kernel_rfl
theorem q19_0_ok (n : Nat) : Owed q19_cx okT 19 q19_lp (n + 0) q19_0_lp := loop_owed (fun z y h => h) fun k zz z8q0 cc y9_ K h hK next hnext => by
  obtain ⟨z8x0, z8x1, z8x2, z8x3, z8x4, z8x5, z8x6, z8x7, z8x8, z8x9, z8x10, z8x11, z8x12, z8x13⟩ := zz
  refine cast (q19_0_round n z8x0 z8x1 z8x2 z8x3 z8x4 z8x5 z8x6 z8x7 z8x8 z8x9 z8x10 z8x11 z8x12 z8x13 z8q0 K next).symm ?_
  simp only [curfewref08_Next_l0] at h
  refine req_intro rfl ?_
  refine br_both h (fun hb h => ?_) (fun hb h => ?_)
  · obtain ⟨q, h⟩ := req_of h
    refine req_intro (band (band_l q) (band_r q)) ?_
    obtain ⟨q, h⟩ := req_of h
    refine req_intro q ?_
    refine rqn_intro 4 ?_
    refine br_both h (fun hb h => ?_) (fun hb h => ?_)
    · refine rqn_intro 3 ?_
      subst h
      refine ⟨_, ?_, hK⟩
      exact wk_of (Or.inr ⟨⟨Or.inl rfl, Or.inl rfl, trivial⟩, ⟨Or.inl rfl, Or.inl rfl, Or.inl rfl, trivial⟩, rfl, rfl, rfl⟩)
    · refine rqn_intro 2 ?_
      exact hnext (z8x0, z8x1, z8x2, z8x3, z8x4, z8x5, z8x6, z8x7, z8x8, z8x9, z8x10, z8x11, z8x12, (wI (z8x13 + 1))) _ h hK ⟨(), wk_of (Or.inr ⟨⟨Or.inl rfl, Or.inl rfl, Or.inl rfl, Or.inl rfl, Or.inl rfl, Or.inl rfl, Or.inl rfl, Or.inl rfl, trivial⟩, ⟨Or.inl rfl, Or.inl rfl, Or.inl rfl, trivial⟩, rfl, rfl, rfl⟩)⟩
  · subst h
    refine ⟨_, ?_, hK⟩
    exact wk_of (Or.inr ⟨⟨Or.inl rfl, Or.inl rfl, Or.inl rfl, Or.inl rfl, Or.inl rfl, trivial⟩, ⟨Or.inl rfl, Or.inl rfl, Or.inl rfl, trivial⟩, rfl, rfl, rfl⟩)
theorem q19_1_round (n : Nat) (z3x0 : Int) (z3x1 : Int) (z3x2 : Int) (z3x3 : Int) (z3x4 : Int) (z3x5 : Int) (z3x6 : Int) (z3x7 : Int) (z3x8 : Int) (z3x9 : Int) (z3x10 : Int) (K : Ret → S → Prop) (next : S → Prop) : acode q19_cx 19 (acall q19_cx okT q19_lp (n + 1)) (okT 19) (q19_lp (n + 1) 19) none q19_1_body (iterK (wkK 2 K) next) (q19_1_st (z3x0, z3x1, z3x2, z3x3, z3x4, z3x5, z3x6, z3x7, z3x8, z3x9, z3x10) () ()) =
    (rqn 5 (br (decide (z3x10 ≤ (if 2932896 < (wI (z3x9 + 2922)) then 2932896 else (wI (z3x9 + 2922))))) (rqn 4 (∃ y5 : Bool, (curfewref08_fits_R z3x0 z3x1 z3x2 z3x3 z3x4 z3x5 z3x6 z3x7 z3x10 y5) ∧ (br y5 (rqn 3 (∃ y6 : List Int, (curfewref08_On_R z3x0 z3x1 z3x2 z3x3 z3x4 z3x10 y6) ∧ (∀ c7 : Nat, (rqn 2 (((none : Option Nat) = (none : Option Nat)) ∧ (q19_0_body = q19_0_body) ∧ ∃ z10 : curfewref08_Next_l0_Z, ∃ z10q : q19_0_Q, ∃ y11 : curfewref08_Next_l0_Y, (3 = 3) ∧ (∃ zc : q19_0_C, wk 3 ⟨[(1, (vi z3x8)), (2, (V.ptr 0 0)), (6, (vi z3x9)), (7, (V.ptr 1 0)), (8, (vi z3x10)), (20, (vb (decide (z3x10 ≤ (if 2932896 < (wI (z3x9 + 2922)) then 2932896 else (wI (z3x9 + 2922))))))), (26, (vb y5)), (29, (V.row 2 1 (List.length y6) c7)), (30, (vi (((List.length y6) : Nat) : Int))), (31, (vi 0))], [(Blk.cells [(vu z3x0), (vu z3x1), (vu z3x2), (vu z3x3), (vu z3x4)]), (Blk.cells [(vi z3x5), (vi z3x6), (vi z3x7)]), (Blk.row (.int .i64) y6 2 c7)], []⟩ (q19_0_st z10 z10q zc)) ∧ (∃ k, curfewref08_Next_l0 k z10 y11) ∧ sume (fun y11 => (wkK 2 K .ret ⟨[(4, (vi y11)), (5, (vb true))], [(Blk.cells [(vu (z10.2.1)), (vu (z10.2.2.1)), (vu (z10.2.2.2.1)), (vu (z10.2.2.2.2.1)), (vu (z10.2.2.2.2.2.1))]), (Blk.cells [(vi (z10.2.2.2.2.2.2.1)), (vi (z10.2.2.2.2.2.2.2.1)), (vi (z10.2.2.2.2.2.2.2.2.1))]), (Blk.row (.int .i64) (z10.1) 2 z10q)], []⟩)) (fun y11 => (rqn 2 (∃ y12 : Int × Int × Int, (curfewref08_behind_R (z10.2.2.2.2.2.2.1) (z10.2.2.2.2.2.2.2.1) (z10.2.2.2.2.2.2.2.2.1) y12) ∧ (rqn 3 (next ⟨[(1, (vi (z10.2.2.2.2.2.2.2.2.2.1))), (2, (V.ptr 0 0)), (6, (vi (z10.2.2.2.2.2.2.2.2.2.2.1))), (7, (V.ptr 1 0)), (8, (vi (wI ((z10.2.2.2.2.2.2.2.2.2.2.2.1) + 1))))], [(Blk.cells [(vu (z10.2.1)), (vu (z10.2.2.1)), (vu (z10.2.2.2.1)), (vu (z10.2.2.2.2.1)), (vu (z10.2.2.2.2.2.1))]), (Blk.cells [(vi (y12.1)), (vi ((y12.2).1)), (vi ((y12.2).2))]), (Blk.row (.int .i64) (z10.1) 2 z10q)], []⟩))))) y11))))) (rqn 2 (∃ y13 : Int × Int × Int, (curfewref08_behind_R z3x5 z3x6 z3x7 y13) ∧ (rqn 3 (next ⟨[(1, (vi z3x8)), (2, (V.ptr 0 0)), (6, (vi z3x9)), (7, (V.ptr 1 0)), (8, (vi (wI (z3x10 + 1)))), (20, (vb (decide (z3x10 ≤ (if 2932896 < (wI (z3x9 + 2922)) then 2932896 else (wI (z3x9 + 2922))))))), (26, (vb y5))], [(Blk.cells [(vu z3x0), (vu z3x1), (vu z3x2), (vu z3x3), (vu z3x4)]), (Blk.cells [(vi (y13.1)), (vi ((y13.2).1)), (vi ((y13.2).2))])], []⟩))))))) (wkK 2 K (.exit 0) ⟨[(1, (vi z3x8)), (2, (V.ptr 0 0)), (6, (vi z3x9)), (7, (V.ptr 1 0)), (8, (vi z3x10)), (20, (vb (decide (z3x10 ≤ (if 2932896 < (wI (z3x9 + 2922)) then 2932896 else (wI (z3x9 + 2922)))))))], [(Blk.cells [(vu z3x0), (vu z3x1), (vu z3x2), (vu z3x3), (vu z3x4)]), (Blk.cells [(vi z3x5), (vi z3x6), (vi z3x7)])], []⟩))) := by kernel_rfl
theorem q19_1_ok (n : Nat) : Owed q19_cx okT 19 q19_lp (n + 1) q19_1_lp := loop_owed (fun z y h => h) fun k zz qq cc y4_ K h hK next hnext => by
  obtain ⟨z3x0, z3x1, z3x2, z3x3, z3x4, z3x5, z3x6, z3x7, z3x8, z3x9, z3x10⟩ := zz
  refine cast (q19_1_round n z3x0 z3x1 z3x2 z3x3 z3x4 z3x5 z3x6 z3x7 z3x8 z3x9 z3x10 K next).symm ?_
  simp only [curfewref08_Next_l1] at h
  refine rqn_intro 5 ?_
  refine br_both h (fun hb h => ?_) (fun hb h => ?_)
  · refine rqn_intro 4 ?_
    refine ex_both h fun y5 h => ?_
    refine br_both h (fun hb h => ?_) (fun hb h => ?_)
    · refine rqn_intro 3 ?_
      refine ex_both h fun y6 h => ?_
      intro c7
      refine rqn_intro 2 ?_
      obtain ⟨y11, ry11, h⟩ := h
      refine ⟨rfl, rfl, (y6, z3x0, z3x1, z3x2, z3x3, z3x4, z3x5, z3x6, z3x7, z3x8, z3x9, z3x10, (((List.length y6) : Nat) : Int), 0), c7, y11, rfl, ⟨(), wk_of (Or.inr ⟨⟨Or.inl rfl, Or.inl rfl, Or.inl rfl, Or.inl rfl, Or.inl rfl, Or.inl rfl, Or.inl rfl, Or.inl rfl, trivial⟩, ⟨Or.inl rfl, Or.inl rfl, Or.inl rfl, trivial⟩, rfl, rfl, rfl⟩)⟩, ry11, ?_⟩
      refine sume_both h (fun y11 h => ?_) (fun y11 h => ?_)
      · subst h
        refine ⟨_, ?_, hK⟩
        exact ⟨_, ⟨[(4, (vi y11)), (5, (vb true))], [(Blk.cells [(vu z3x0), (vu z3x1), (vu z3x2), (vu z3x3), (vu z3x4)]), (Blk.cells [(vi z3x5), (vi z3x6), (vi z3x7)]), Blk.dead], []⟩, ⟨[], rfl, rfl⟩, Or.inr ⟨[0, 1, 0], rfl, rfl, rfl, rfl, rfl, ⟨rfl, rfl, trivial⟩, ⟨Or.inr rfl, Or.inr rfl, Or.inl rfl, trivial⟩, rfl, rfl⟩, Or.inr ⟨⟨Or.inl rfl, Or.inl rfl, trivial⟩, ⟨Or.inl rfl, Or.inl rfl, Or.inl rfl, trivial⟩, rfl, rfl, rfl⟩⟩
      · refine rqn_intro 2 ?_
        refine ex_both h fun y12 h => ?_
        refine rqn_intro 3 ?_
        exact hnext (z3x0, z3x1, z3x2, z3x3, z3x4, (y12.1), ((y12.2).1), ((y12.2).2), z3x8, z3x9, (wI (z3x10 + 1))) _ h hK ⟨(), wk_of (Or.inr ⟨⟨Or.inl rfl, Or.inl rfl, Or.inl rfl, Or.inl rfl, Or.inl rfl, trivial⟩, ⟨Or.inl rfl, Or.inl rfl, trivial⟩, rfl, rfl, rfl⟩)⟩
    · refine rqn_intro 2 ?_
      refine ex_both h fun y13 h => ?_
      refine rqn_intro 3 ?_
      exact hnext (z3x0, z3x1, z3x2, z3x3, z3x4, (y13.1), ((y13.2).1), ((y13.2).2), z3x8, z3x9, (wI (z3x10 + 1))) _ h hK ⟨(), wk_of (Or.inr ⟨⟨Or.inl rfl, Or.inl rfl, Or.inl rfl, Or.inl rfl, Or.inl rfl, trivial⟩, ⟨Or.inl rfl, Or.inl rfl, trivial⟩, rfl, rfl, rfl⟩)⟩
  · subst h
    refine ⟨_, ?_, hK⟩
    exact wk_of (Or.inr ⟨trivial, ⟨Or.inl rfl, Or.inl rfl, trivial⟩, rfl, rfl, rfl⟩)
theorem q19_lpok : LpOk q19_cx okT q19_lp := LpOk_tab ⟨q19_0_ok, q19_1_ok, trivial⟩
def curfewref08_Next_R (a0 : Int) (a1 : Int) (a2 : Int) (a3 : Int) (a4 : Int) (a5 : Int) (y : Int × Bool) : Prop :=
  (∃ y1 : Int, (curfewref08_Day_R a5 y1) ∧ (∃ y2 : Int × Int × Int, (curfewref04_At_R y1 y2) ∧ (∃ y15 : curfewref08_Next_l1_Y, curfewref08_Next_l1_L (a0, a1, a2, a3, a4, (y2.1), ((y2.2).1), ((y2.2).2), a5, y1, y1) y15 ∧ sume (fun y15 => (((y15.2.2.2), true) = y)) (fun y15 => ((0, false) = y)) y15)))
theorem q19_tree (a0 : Int) (a1 : Int) (a2 : Int) (a3 : Int) (a4 : Int) (a5 : Int) (y : Int × Bool) : acall q19_cx okT q19_lp 60 (.fn 19 [] []) [(V.agg [(V.int .u64 a0), (V.int .u64 a1), (V.int .u64 a2), (V.int .u64 a3), (V.int .u64 a4)]), (V.int .i64 a5)] [] (leafK (.tup (.cons (.int .i64) (.one .bool))) y) =
    (rqn 4 (∃ y1 : Int, (curfewref08_Day_R a5 y1) ∧ (rqn 3 (∃ y2 : Int × Int × Int, (curfewref04_At_R y1 y2) ∧ (rqn 2 (((none : Option Nat) = (none : Option Nat)) ∧ (q19_1_body = q19_1_body) ∧ ∃ z14 : curfewref08_Next_l1_Z, ∃ z14q : q19_1_Q, ∃ y15 : curfewref08_Next_l1_Y, (2 = 2) ∧ (∃ zc : q19_1_C, wk 2 ⟨[(0, (V.agg [(vu a0), (vu a1), (vu a2), (vu a3), (vu a4)])), (1, (vi a5)), (2, (V.ptr 0 0)), (4, (vi 0)), (5, (vb false)), (6, (vi y1)), (7, (V.ptr 1 0)), (8, (vi y1))], [(Blk.cells [(vu a0), (vu a1), (vu a2), (vu a3), (vu a4)]), (Blk.cells [(vi (y2.1)), (vi ((y2.2).1)), (vi ((y2.2).2))])], []⟩ (q19_1_st z14 z14q zc)) ∧ (∃ k, curfewref08_Next_l1 k z14 y15) ∧ sume (fun y15 => (req true (((y15.2.2.2), true) = y))) (fun y15 => (rqn 2 (req true ((0, false) = y)))) y15)))))) := by kernel_rfl
theorem q19_run (a0 : Int) (a1 : Int) (a2 : Int) (a3 : Int) (a4 : Int) (a5 : Int) (y : Int × Bool) (h : curfewref08_Next_R a0 a1 a2 a3 a4 a5 y) : acall q19_cx okT q19_lp 60 (.fn 19 [] []) [(V.agg [(V.int .u64 a0), (V.int .u64 a1), (V.int .u64 a2), (V.int .u64 a3), (V.int .u64 a4)]), (V.int .i64 a5)] [] (leafK (.tup (.cons (.int .i64) (.one .bool))) y) := by
  refine cast (q19_tree a0 a1 a2 a3 a4 a5 y).symm ?_
  unfold curfewref08_Next_R at h
  refine rqn_intro 4 ?_
  refine ex_both h fun y1 h => ?_
  refine rqn_intro 3 ?_
  refine ex_both h fun y2 h => ?_
  refine rqn_intro 2 ?_
  obtain ⟨y15, ry15, h⟩ := h
  refine ⟨rfl, rfl, (a0, a1, a2, a3, a4, (y2.1), ((y2.2).1), ((y2.2).2), a5, y1, y1), (), y15, rfl, ⟨(), wk_of (Or.inr ⟨⟨Or.inl rfl, Or.inl rfl, Or.inl rfl, Or.inl rfl, Or.inl rfl, trivial⟩, ⟨Or.inl rfl, Or.inl rfl, trivial⟩, rfl, rfl, rfl⟩)⟩, ry15, ?_⟩
  refine sume_both h (fun y15 h => ?_) (fun y15 h => ?_)
  · exact req_intro rfl h
  · refine rqn_intro 2 ?_
    exact req_intro rfl h
theorem curfewref08_Next_ok : FxOk Tryd.prog gsT 19 (.cons (.agg (.cons (.int .u64) (.cons (.int .u64) (.cons (.int .u64) (.cons (.int .u64) (.one (.int .u64))))))) (.one (.int .i64))) (.tup (.cons (.int .i64) (.one .bool))) fun x y => curfewref08_Next_R (x.1.1) (x.1.2.1) (x.1.2.2.1) (x.1.2.2.2.1) (x.1.2.2.2.2) (x.2) y := fx_of (c := q19_cx) (ty_ok rfl) (eq_ok rfl) q19_fns follows_ok (ok := okT) (lp := q19_lp) (n := 60) q19_lpok (enters Tryd.func19 (by kernel_rfl) rfl) (fun y => ⟨_, rfl⟩) fun x y h => q19_run _ _ _ _ _ _ y h
noncomputable def q48_cx : Cx := ⟨tyT, [(44, .fx (.one (.int .i64)) (.agg (.cons (.int .i64) (.cons (.int .i64) (.one (.int .i64))))) fun x y => curfewref04_At_R x y),
  (45, .fx (.cons (.agg (.cons (.int .u64) (.cons (.int .u64) (.cons (.int .u64) (.cons (.int .u64) (.one (.int .u64))))))) (.cons (.agg (.cons (.int .i64) (.cons (.int .i64) (.one (.int .i64))))) (.one (.int .i64)))) .bool fun x y => curfewref08_fits_R (x.1.1) (x.1.2.1) (x.1.2.2.1) (x.1.2.2.2.1) (x.1.2.2.2.2) (x.2.1.1) (x.2.1.2.1) (x.2.1.2.2) (x.2.2) y),
  (47, .fx (.one (.agg (.cons (.int .i64) (.cons (.int .i64) (.one (.int .i64)))))) (.agg (.cons (.int .i64) (.cons (.int .i64) (.one (.int .i64))))) fun x y => curfewref08_behind_R (x.1) (x.2.1) (x.2.2) y),
  (48, .body Tryd.f48)], gsT, eqT⟩
theorem q48_fns : FnsOk Tryd.prog q48_cx := Fns_assoc ⟨curfewref04_At_ok, curfewref08_fits_ok, curfewref08_behind_ok, body_ent Tryd.func48 (by kernel_rfl) (by kernel_rfl), trivial⟩
noncomputable def q48_0_body : Code := subC [1, 1, 1, 0, 1, 0, 0] (bodyOf Tryd.f48)
abbrev curfewref08_Fit_l0_Z : Type := List Int × Int × Int × Int × Int × Int × Int × Int × Int × Int × Int
abbrev curfewref08_Fit_l0_Y : Type := List Int × Int × Int × Int
abbrev q48_0_C : Type := Nat
abbrev q48_0_Q : Type := Unit
noncomputable def q48_0_st (z2 : curfewref08_Fit_l0_Z) (z2q : q48_0_Q) (z2c : q48_0_C) : S := ⟨[(2, (vi (z2.2.2.2.2.2.2.2.2.2.1))), (3, (V.ptr 0 0)), (7, (V.row 2 1 (List.length (z2.1)) z2c)), (8, (V.ptr 1 0)), (9, (vi (z2.2.2.2.2.2.2.2.2.2.2)))], [(Blk.cells [(vu (z2.2.1)), (vu (z2.2.2.1)), (vu (z2.2.2.2.1)), (vu (z2.2.2.2.2.1)), (vu (z2.2.2.2.2.2.1))]), (Blk.cells [(vi (z2.2.2.2.2.2.2.1)), (vi (z2.2.2.2.2.2.2.2.1)), (vi (z2.2.2.2.2.2.2.2.2.1))]), (Blk.row (.int .i64) (z2.1) 3 z2c)], []⟩
def q48_0_K (K : Ret → S → Prop) (z2 : curfewref08_Fit_l0_Z) (z2q : q48_0_Q) (y3 : curfewref08_Fit_l0_Y) : Prop := (∀ y3c : Nat, K (.exit 0) ⟨[(7, (V.row 2 1 (List.length (y3.1)) y3c))], [(Blk.cells [(vu (z2.2.1)), (vu (z2.2.2.1)), (vu (z2.2.2.2.1)), (vu (z2.2.2.2.2.1)), (vu (z2.2.2.2.2.2.1))]), (Blk.cells [(vi (y3.2.1)), (vi (y3.2.2.1)), (vi (y3.2.2.2))]), (Blk.row (.int .i64) (y3.1) 3 y3c)], []⟩)
def curfewref08_Fit_l0 : Nat → curfewref08_Fit_l0_Z → curfewref08_Fit_l0_Y → Prop
  | 0, _, _ => False
  | k + 1, (z2x0, z2x1, z2x2, z2x3, z2x4, z2x5, z2x6, z2x7, z2x8, z2x9, z2x10), y3_ => (br (decide (z2x10 ≤ z2x9)) (∃ y4 : Bool, (curfewref08_fits_R z2x1 z2x2 z2x3 z2x4 z2x5 z2x6 z2x7 z2x8 z2x10 y4) ∧ (br y4 (req (Nat.ble ((List.length (z2x0 ++ [z2x10])) * 9) 140737488355328) (∃ y6 : Int × Int × Int, (curfewref08_behind_R z2x6 z2x7 z2x8 y6) ∧ (curfewref08_Fit_l0 k ((z2x0 ++ [z2x10]), z2x1, z2x2, z2x3, z2x4, z2x5, (y6.1), ((y6.2).1), ((y6.2).2), z2x9, (IntKind.wrap .i64 (z2x10 + 1))) y3_))) (∃ y7 : Int × Int × Int, (curfewref08_behind_R z2x6 z2x7 z2x8 y7) ∧ (curfewref08_Fit_l0 k (z2x0, z2x1, z2x2, z2x3, z2x4, z2x5, (y7.1), ((y7.2).1), ((y7.2).2), z2x9, (IntKind.wrap .i64 (z2x10 + 1))) y3_)))) ((z2x0, z2x6, z2x7, z2x8) = y3_))
def curfewref08_Fit_l0_L (z : curfewref08_Fit_l0_Z) (y : curfewref08_Fit_l0_Y) : Prop := ∃ k, curfewref08_Fit_l0 k z y
noncomputable def q48_0_lp : Lp := .auto none q48_0_body (loopG 2 q48_0_st (fun z y => ∃ k, curfewref08_Fit_l0 k z y) q48_0_K)
noncomputable def q48_lp : Nat → FuncId → Nat → Nat → Lp := lpTab [(48, 4, 2, 1, q48_0_lp)]
theorem q48_0_round (n : Nat) (z2x0 : List Int) (z2x1 : Int) (z2x2 : Int) (z2x3 : Int) (z2x4 : Int) (z2x5 : Int) (z2x6 : Int) (z2x7 : Int) (z2x8 : Int) (z2x9 : Int) (z2x10 : Int) (z2k0 : Nat) (K : Ret → S → Prop) (next : S → Prop) : acode q48_cx 48 (acall q48_cx okT q48_lp (n + 1)) (okT 48) (q48_lp (n + 1) 48) none q48_0_body (iterK (wkK 2 K) next) (q48_0_st (z2x0, z2x1, z2x2, z2x3, z2x4, z2x5, z2x6, z2x7, z2x8, z2x9, z2x10) () z2k0) =
    (rqn 3 (br (decide (z2x10 ≤ z2x9)) (rqn 4 (∃ y4 : Bool, (curfewref08_fits_R z2x1 z2x2 z2x3 z2x4 z2x5 z2x6 z2x7 z2x8 z2x10 y4) ∧ (br y4 (rqn 2 (req (((((true && true) && true) && (Nat.beq (List.length z2x0) (List.length z2x0))) && (Nat.beq z2k0 z2k0)) && (Nat.ble ((List.length (z2x0 ++ [z2x10])) * 9) 140737488355328)) (∀ c5 : Nat, (rqn 3 (∃ y6 : Int × Int × Int, (curfewref08_behind_R z2x6 z2x7 z2x8 y6) ∧ (rqn 3 (next ⟨[(2, (vi z2x9)), (3, (V.ptr 0 0)), (7, (V.row 4 1 (List.length (z2x0 ++ [z2x10])) c5)), (8, (V.ptr 1 0)), (9, (vi (wI (z2x10 + 1)))), (15, (vb (decide (z2x10 ≤ z2x9)))), (21, (vb y4))], [(Blk.cells [(vu z2x1), (vu z2x2), (vu z2x3), (vu z2x4), (vu z2x5)]), (Blk.cells [(vi (y6.1)), (vi ((y6.2).1)), (vi ((y6.2).2))]), Blk.dead, (Blk.cells [(vi z2x10)]), (Blk.row (.int .i64) (z2x0 ++ [z2x10]) 3 c5)], []⟩))))))) (rqn 2 (∃ y7 : Int × Int × Int, (curfewref08_behind_R z2x6 z2x7 z2x8 y7) ∧ (rqn 3 (next ⟨[(2, (vi z2x9)), (3, (V.ptr 0 0)), (7, (V.row 2 1 (List.length z2x0) z2k0)), (8, (V.ptr 1 0)), (9, (vi (wI (z2x10 + 1)))), (15, (vb (decide (z2x10 ≤ z2x9)))), (21, (vb y4))], [(Blk.cells [(vu z2x1), (vu z2x2), (vu z2x3), (vu z2x4), (vu z2x5)]), (Blk.cells [(vi (y7.1)), (vi ((y7.2).1)), (vi ((y7.2).2))]), (Blk.row (.int .i64) z2x0 3 z2k0)], []⟩))))))) (wkK 2 K (.exit 0) ⟨[(2, (vi z2x9)), (3, (V.ptr 0 0)), (7, (V.row 2 1 (List.length z2x0) z2k0)), (8, (V.ptr 1 0)), (9, (vi z2x10)), (15, (vb (decide (z2x10 ≤ z2x9))))], [(Blk.cells [(vu z2x1), (vu z2x2), (vu z2x3), (vu z2x4), (vu z2x5)]), (Blk.cells [(vi z2x6), (vi z2x7), (vi z2x8)]), (Blk.row (.int .i64) z2x0 3 z2k0)], []⟩))) := by kernel_rfl
theorem q48_0_ok (n : Nat) : Owed q48_cx okT 48 q48_lp (n + 1) q48_0_lp := loop_owed (fun z y h => h) fun k zz qq z2k0 y3_ K h hK next hnext => by
  obtain ⟨z2x0, z2x1, z2x2, z2x3, z2x4, z2x5, z2x6, z2x7, z2x8, z2x9, z2x10⟩ := zz
  refine cast (q48_0_round n z2x0 z2x1 z2x2 z2x3 z2x4 z2x5 z2x6 z2x7 z2x8 z2x9 z2x10 z2k0 K next).symm ?_
  simp only [curfewref08_Fit_l0] at h
  refine rqn_intro 3 ?_
  refine br_both h (fun hb h => ?_) (fun hb h => ?_)
  · refine rqn_intro 4 ?_
    refine ex_both h fun y4 h => ?_
    refine br_both h (fun hb h => ?_) (fun hb h => ?_)
    · refine rqn_intro 2 ?_
      obtain ⟨q, h⟩ := req_of h
      refine req_intro (band (band (band (band (band rfl rfl) rfl) (Nat.beq_refl _)) (Nat.beq_refl _)) q) ?_
      intro c5
      refine rqn_intro 3 ?_
      refine ex_both h fun y6 h => ?_
      refine rqn_intro 3 ?_
      exact hnext ((z2x0 ++ [z2x10]), z2x1, z2x2, z2x3, z2x4, z2x5, (y6.1), ((y6.2).1), ((y6.2).2), z2x9, (wI (z2x10 + 1))) _ h hK ⟨c5, ⟨_, ⟨[(2, (vi z2x9)), (3, (V.ptr 0 0)), (7, (V.row 2 1 (List.length (z2x0 ++ [z2x10])) c5)), (8, (V.ptr 1 0)), (9, (vi (wI (z2x10 + 1))))], [(Blk.cells [(vu z2x1), (vu z2x2), (vu z2x3), (vu z2x4), (vu z2x5)]), (Blk.cells [(vi (y6.1)), (vi ((y6.2).1)), (vi ((y6.2).2))]), (Blk.row (.int .i64) (z2x0 ++ [z2x10]) 3 c5)], []⟩, ⟨[], rfl, rfl⟩, Or.inr ⟨[0, 1, 4], rfl, rfl, rfl, rfl, rfl, ⟨rfl, rfl, rfl, rfl, rfl, trivial⟩, ⟨Or.inr rfl, Or.inr rfl, Or.inr rfl, trivial⟩, rfl, rfl⟩, Or.inr ⟨⟨Or.inl rfl, Or.inl rfl, Or.inl rfl, Or.inl rfl, Or.inl rfl, trivial⟩, ⟨Or.inl rfl, Or.inl rfl, Or.inl rfl, trivial⟩, rfl, rfl, rfl⟩⟩⟩
    · refine rqn_intro 2 ?_
      refine ex_both h fun y7 h => ?_
      refine rqn_intro 3 ?_
      exact hnext (z2x0, z2x1, z2x2, z2x3, z2x4, z2x5, (y7.1), ((y7.2).1), ((y7.2).2), z2x9, (wI (z2x10 + 1))) _ h hK ⟨z2k0, wk_of (Or.inr ⟨⟨Or.inl rfl, Or.inl rfl, Or.inl rfl, Or.inl rfl, Or.inl rfl, trivial⟩, ⟨Or.inl rfl, Or.inl rfl, Or.inl rfl, trivial⟩, rfl, rfl, rfl⟩)⟩
  · subst h
    refine ⟨_, ?_, hK z2k0⟩
    exact wk_of (Or.inr ⟨⟨Or.inl rfl, trivial⟩, ⟨Or.inl rfl, Or.inl rfl, Or.inl rfl, trivial⟩, rfl, rfl, rfl⟩)
theorem q48_lpok : LpOk q48_cx okT q48_lp := LpOk_tab ⟨q48_0_ok, trivial⟩
def curfewref08_Fit_R (a0 : Int) (a1 : Int) (a2 : Int) (a3 : Int) (a4 : Int) (a5 : Int) (a6 : Int) (y : List Int) : Prop :=
  (∃ y1 : Int × Int × Int, (curfewref04_At_R a5 y1) ∧ (∃ y9 : curfewref08_Fit_l0_Y, curfewref08_Fit_l0_L ([], a0, a1, a2, a3, a4, (y1.1), ((y1.2).1), ((y1.2).2), a6, a5) y9 ∧ ((y9.1) = y)))
theorem q48_tree (a0 : Int) (a1 : Int) (a2 : Int) (a3 : Int) (a4 : Int) (a5 : Int) (a6 : Int) (y : List Int) : acall q48_cx okT q48_lp 60 (.fn 48 [] []) [(V.agg [(V.int .u64 a0), (V.int .u64 a1), (V.int .u64 a2), (V.int .u64 a3), (V.int .u64 a4)]), (V.int .i64 a5), (V.int .i64 a6)] [] (leafK (.nw (.int .i64) 3) y) =
    (rqn 4 (∃ y1 : Int × Int × Int, (curfewref04_At_R a5 y1) ∧ (rqn 2 (((none : Option Nat) = (none : Option Nat)) ∧ (q48_0_body = q48_0_body) ∧ ∃ z8 : curfewref08_Fit_l0_Z, ∃ z8q : q48_0_Q, ∃ y9 : curfewref08_Fit_l0_Y, (2 = 2) ∧ (∃ zc : q48_0_C, wk 2 ⟨[(0, (V.agg [(vu a0), (vu a1), (vu a2), (vu a3), (vu a4)])), (1, (vi a5)), (2, (vi a6)), (3, (V.ptr 0 0)), (6, (V.old (.slice none 0 0))), (7, (V.old (.slice none 0 0))), (8, (V.ptr 1 0)), (9, (vi a5))], [(Blk.cells [(vu a0), (vu a1), (vu a2), (vu a3), (vu a4)]), (Blk.cells [(vi (y1.1)), (vi ((y1.2).1)), (vi ((y1.2).2))])], []⟩ (q48_0_st z8 z8q zc)) ∧ (∃ k, curfewref08_Fit_l0 k z8 y9) ∧ (∀ y9c : Nat, (rqn 2 (req ((Nat.beq (List.length (y9.1)) (List.length (y9.1))) && (Nat.beq y9c y9c)) ((y9.1) = y)))))))) := by kernel_rfl
theorem q48_run (a0 : Int) (a1 : Int) (a2 : Int) (a3 : Int) (a4 : Int) (a5 : Int) (a6 : Int) (y : List Int) (h : curfewref08_Fit_R a0 a1 a2 a3 a4 a5 a6 y) : acall q48_cx okT q48_lp 60 (.fn 48 [] []) [(V.agg [(V.int .u64 a0), (V.int .u64 a1), (V.int .u64 a2), (V.int .u64 a3), (V.int .u64 a4)]), (V.int .i64 a5), (V.int .i64 a6)] [] (leafK (.nw (.int .i64) 3) y) := by
  refine cast (q48_tree a0 a1 a2 a3 a4 a5 a6 y).symm ?_
  unfold curfewref08_Fit_R at h
  refine rqn_intro 4 ?_
  refine ex_both h fun y1 h => ?_
  refine rqn_intro 2 ?_
  obtain ⟨y9, ry9, h⟩ := h
  refine ⟨rfl, rfl, ([], a0, a1, a2, a3, a4, (y1.1), ((y1.2).1), ((y1.2).2), a6, a5), (), y9, rfl, ⟨0, ⟨_, ⟨[(2, (vi a6)), (3, (V.ptr 0 0)), (7, (V.old (.slice none 0 0))), (8, (V.ptr 1 0)), (9, (vi a5))], [(Blk.cells [(vu a0), (vu a1), (vu a2), (vu a3), (vu a4)]), (Blk.cells [(vi (y1.1)), (vi ((y1.2).1)), (vi ((y1.2).2))]), Blk.dead], []⟩, ⟨[], rfl, rfl⟩, Or.inr ⟨[0, 1, 0], rfl, rfl, rfl, rfl, rfl, ⟨rfl, rfl, rfl, rfl, rfl, trivial⟩, ⟨Or.inr rfl, Or.inr rfl, Or.inl rfl, trivial⟩, rfl, rfl⟩, Or.inr ⟨⟨Or.inl rfl, Or.inl rfl, Or.inr (Or.inr (Or.inl ⟨rfl, Or.inl ⟨_, _, rfl⟩⟩)), Or.inl rfl, Or.inl rfl, trivial⟩, ⟨Or.inl rfl, Or.inl rfl, Or.inr (Or.inr (Or.inl ⟨_, _, rfl⟩)), trivial⟩, rfl, rfl, rfl⟩⟩⟩, ry9, ?_⟩
  intro y9c
  refine rqn_intro 2 ?_
  exact req_intro (band (Nat.beq_refl _) (Nat.beq_refl _)) h
theorem curfewref08_Fit_ok : FxOk Tryd.prog gsT 48 (.cons (.agg (.cons (.int .u64) (.cons (.int .u64) (.cons (.int .u64) (.cons (.int .u64) (.one (.int .u64))))))) (.cons (.int .i64) (.one (.int .i64)))) (.nw (.int .i64) 3) fun x y => curfewref08_Fit_R (x.1.1) (x.1.2.1) (x.1.2.2.1) (x.1.2.2.2.1) (x.1.2.2.2.2) (x.2.1) (x.2.2) y := fx_of (c := q48_cx) (ty_ok rfl) (eq_ok rfl) q48_fns follows_ok (ok := okT) (lp := q48_lp) (n := 60) q48_lpok (enters Tryd.func48 (by kernel_rfl) rfl) (fun y => ⟨_, rfl⟩) fun x y h => q48_run _ _ _ _ _ _ _ y h
noncomputable def q20_cx : Cx := ⟨tyT, [(20, .body Tryd.f20),
  (43, .fx (.one (.int .i64)) (.int .i64) fun x y => curfewref08_Day_R x y),
  (46, .fx (.cons (.agg (.cons (.int .u64) (.cons (.int .u64) (.cons (.int .u64) (.cons (.int .u64) (.one (.int .u64))))))) (.one (.int .i64))) (.nw (.int .i64) 2) fun x y => curfewref08_On_R (x.1.1) (x.1.2.1) (x.1.2.2.1) (x.1.2.2.2.1) (x.1.2.2.2.2) (x.2) y),
  (48, .fx (.cons (.agg (.cons (.int .u64) (.cons (.int .u64) (.cons (.int .u64) (.cons (.int .u64) (.one (.int .u64))))))) (.cons (.int .i64) (.one (.int .i64)))) (.nw (.int .i64) 3) fun x y => curfewref08_Fit_R (x.1.1) (x.1.2.1) (x.1.2.2.1) (x.1.2.2.2.1) (x.1.2.2.2.2) (x.2.1) (x.2.2) y)], gsT, eqT⟩
theorem q20_fns : FnsOk Tryd.prog q20_cx := Fns_assoc ⟨body_ent Tryd.func20 (by kernel_rfl) (by kernel_rfl), curfewref08_Day_ok, curfewref08_On_ok, curfewref08_Fit_ok, trivial⟩
noncomputable def q20_0_body : Code := subC [1, 1, 1, 0, 1, 0, 0, 1, 0, 0, 1, 1, 0, 0] (bodyOf Tryd.f20)
abbrev curfewref08_Last_l0_Z : Type := List Int × List Int × Int × Int × Int × Int × Int × Int × Int × Int
abbrev curfewref08_Last_l0_Y : Type := (Int) ⊕ (Unit)
abbrev q20_0_C : Type := Unit
abbrev q20_0_Q : Type := Nat × Nat
noncomputable def q20_0_st (z8 : curfewref08_Last_l0_Z) (z8q : q20_0_Q) (z8c : q20_0_C) : S := ⟨[(1, (vi (z8.2.2.2.2.2.2.2.1))), (2, (V.ptr 0 0)), (7, (V.row 1 1 (List.length (z8.1)) (z8q.1))), (8, (vi (z8.2.2.2.2.2.2.2.2.1))), (9, (V.row 2 1 (List.length (z8.2.1)) (z8q.2))), (10, (vi (z8.2.2.2.2.2.2.2.2.2)))], [(Blk.cells [(vu (z8.2.2.1)), (vu (z8.2.2.2.1)), (vu (z8.2.2.2.2.1)), (vu (z8.2.2.2.2.2.1)), (vu (z8.2.2.2.2.2.2.1))]), (Blk.row (.int .i64) (z8.1) 3 (z8q.1)), (Blk.row (.int .i64) (z8.2.1) 2 (z8q.2))], []⟩
def q20_0_K (K : Ret → S → Prop) (z8 : curfewref08_Last_l0_Z) (z8q : q20_0_Q) (y9 : curfewref08_Last_l0_Y) : Prop := sume (fun y9 => K .ret ⟨[(4, (vi y9)), (5, (vb true))], [(Blk.cells [(vu (z8.2.2.1)), (vu (z8.2.2.2.1)), (vu (z8.2.2.2.2.1)), (vu (z8.2.2.2.2.2.1)), (vu (z8.2.2.2.2.2.2.1))]), (Blk.row (.int .i64) (z8.1) 3 (z8q.1)), (Blk.row (.int .i64) (z8.2.1) 2 (z8q.2))], []⟩) (fun y9 => K (.exit 2) ⟨[(1, (vi (z8.2.2.2.2.2.2.2.1))), (2, (V.ptr 0 0)), (7, (V.row 1 1 (List.length (z8.1)) (z8q.1))), (8, (vi (z8.2.2.2.2.2.2.2.2.1)))], [(Blk.cells [(vu (z8.2.2.1)), (vu (z8.2.2.2.1)), (vu (z8.2.2.2.2.1)), (vu (z8.2.2.2.2.2.1)), (vu (z8.2.2.2.2.2.2.1))]), (Blk.row (.int .i64) (z8.1) 3 (z8q.1)), (Blk.row (.int .i64) (z8.2.1) 2 (z8q.2))], []⟩) y9
def curfewref08_Last_l0 : Nat → curfewref08_Last_l0_Z → curfewref08_Last_l0_Y → Prop
  | 0, _, _ => False
  | k + 1, (z8x0, z8x1, z8x2, z8x3, z8x4, z8x5, z8x6, z8x7, z8x8, z8x9), y9_ => (br (decide (z8x9 ≥ 0)) (req ((decide (0 ≤ z8x9)) && (decide (z8x9 < (((List.length z8x1) : Nat) : Int)))) (req (Nat.blt (Int.toNat z8x9) (List.length z8x1)) (br (decide ((List.getD z8x1 (Int.toNat z8x9) 0) ≤ z8x7)) (req ((decide (0 ≤ z8x9)) && (decide (z8x9 < (((List.length z8x1) : Nat) : Int)))) (req (Nat.blt (Int.toNat z8x9) (List.length z8x1)) ((Sum.inl (List.getD z8x1 (Int.toNat z8x9) 0)) = y9_))) (curfewref08_Last_l0 k (z8x0, z8x1, z8x2, z8x3, z8x4, z8x5, z8x6, z8x7, z8x8, (IntKind.wrap .i64 (z8x9 - 1))) y9_)))) ((Sum.inr ()) = y9_))
def curfewref08_Last_l0_L (z : curfewref08_Last_l0_Z) (y : curfewref08_Last_l0_Y) : Prop := ∃ k, curfewref08_Last_l0 k z y
noncomputable def q20_0_lp : Lp := .auto none q20_0_body (loopG 3 q20_0_st (fun z y => ∃ k, curfewref08_Last_l0 k z y) q20_0_K)
noncomputable def q20_1_body : Code := subC [1, 1, 1, 0, 1, 0, 0] (bodyOf Tryd.f20)
abbrev curfewref08_Last_l1_Z : Type := List Int × Int × Int × Int × Int × Int × Int × Int
abbrev curfewref08_Last_l1_Y : Type := (Int) ⊕ (Unit)
abbrev q20_1_C : Type := Unit
abbrev q20_1_Q : Type := Nat
noncomputable def q20_1_st (z4 : curfewref08_Last_l1_Z) (z4q : q20_1_Q) (z4c : q20_1_C) : S := ⟨[(1, (vi (z4.2.2.2.2.2.2.1))), (2, (V.ptr 0 0)), (7, (V.row 1 1 (List.length (z4.1)) z4q)), (8, (vi (z4.2.2.2.2.2.2.2)))], [(Blk.cells [(vu (z4.2.1)), (vu (z4.2.2.1)), (vu (z4.2.2.2.1)), (vu (z4.2.2.2.2.1)), (vu (z4.2.2.2.2.2.1))]), (Blk.row (.int .i64) (z4.1) 3 z4q)], []⟩
def q20_1_K (K : Ret → S → Prop) (z4 : curfewref08_Last_l1_Z) (z4q : q20_1_Q) (y5 : curfewref08_Last_l1_Y) : Prop := sume (fun y5 => K .ret ⟨[(4, (vi y5)), (5, (vb true))], [(Blk.cells [(vu (z4.2.1)), (vu (z4.2.2.1)), (vu (z4.2.2.2.1)), (vu (z4.2.2.2.2.1)), (vu (z4.2.2.2.2.2.1))]), (Blk.row (.int .i64) (z4.1) 3 z4q), Blk.dead], []⟩) (fun y5 => K (.exit 0) ⟨[], [(Blk.cells [(vu (z4.2.1)), (vu (z4.2.2.1)), (vu (z4.2.2.2.1)), (vu (z4.2.2.2.2.1)), (vu (z4.2.2.2.2.2.1))]), (Blk.row (.int .i64) (z4.1) 3 z4q)], []⟩) y5
def curfewref08_Last_l1 : Nat → curfewref08_Last_l1_Z → curfewref08_Last_l1_Y → Prop
  | 0, _, _ => False
  | k + 1, (z4x0, z4x1, z4x2, z4x3, z4x4, z4x5, z4x6, z4x7), y5_ => (br (decide (z4x7 ≥ 0)) (req ((decide (0 ≤ z4x7)) && (decide (z4x7 < (((List.length z4x0) : Nat) : Int)))) (req (Nat.blt (Int.toNat z4x7) (List.length z4x0)) (∃ y6 : List Int, (curfewref08_On_R z4x1 z4x2 z4x3 z4x4 z4x5 (List.getD z4x0 (Int.toNat z4x7) 0) y6) ∧ (∃ y11 : curfewref08_Last_l0_Y, curfewref08_Last_l0_L (z4x0, y6, z4x1, z4x2, z4x3, z4x4, z4x5, z4x6, z4x7, (IntKind.wrap .i64 ((((List.length y6) : Nat) : Int) - 1))) y11 ∧ sume (fun y11 => ((Sum.inl y11) = y5_)) (fun y11 => (curfewref08_Last_l1 k (z4x0, z4x1, z4x2, z4x3, z4x4, z4x5, z4x6, (IntKind.wrap .i64 (z4x7 - 1))) y5_)) y11)))) ((Sum.inr ()) = y5_))
def curfewref08_Last_l1_L (z : curfewref08_Last_l1_Z) (y : curfewref08_Last_l1_Y) : Prop := ∃ k, curfewref08_Last_l1 k z y
noncomputable def q20_1_lp : Lp := .auto none q20_1_body (loopG 2 q20_1_st (fun z y => ∃ k, curfewref08_Last_l1 k z y) q20_1_K)
noncomputable def q20_lp : Nat → FuncId → Nat → Nat → Lp := lpTab [(20, 8, 3, 0, q20_0_lp), (20, 4, 2, 1, q20_1_lp)]
theorem q20_0_round (n : Nat) (z8x0 : List Int) (z8x1 : List Int) (z8x2 : Int) (z8x3 : Int) (z8x4 : Int) (z8x5 : Int) (z8x6 : Int) (z8x7 : Int) (z8x8 : Int) (z8x9 : Int) (z8q0 : Nat) (z8q1 : Nat) (K : Ret → S → Prop) (next : S → Prop) : acode q20_cx 20 (acall q20_cx okT q20_lp (n + 0)) (okT 20) (q20_lp (n + 0) 20) none q20_0_body (iterK (wkK 3 K) next) (q20_0_st (z8x0, z8x1, z8x2, z8x3, z8x4, z8x5, z8x6, z8x7, z8x8, z8x9) (z8q0, z8q1) ()) =
    (rqn 2 (br (decide (z8x9 ≥ 0)) (rqn 2 (req ((decide (0 ≤ z8x9)) && (decide (z8x9 < (((List.length z8x1) : Nat) : Int)))) (req (Nat.blt (Int.toNat z8x9) (List.length z8x1)) (rqn 2 (br (decide ((List.getD z8x1 (Int.toNat z8x9) 0) ≤ z8x7)) (rqn 2 (req ((decide (0 ≤ z8x9)) && (decide (z8x9 < (((List.length z8x1) : Nat) : Int)))) (req (Nat.blt (Int.toNat z8x9) (List.length z8x1)) (rqn 2 (wkK 3 K .ret ⟨[(1, (vi z8x7)), (2, (V.ptr 0 0)), (7, (V.row 1 1 (List.length z8x0) z8q0)), (8, (vi z8x8)), (9, (V.row 2 1 (List.length z8x1) z8q1)), (10, (vi z8x9)), (36, (vb (decide (z8x9 ≥ 0)))), (44, (vb (decide ((List.getD z8x1 (Int.toNat z8x9) 0) ≤ z8x7)))), (4, (vi (List.getD z8x1 (Int.toNat z8x9) 0))), (5, (vb true))], [(Blk.cells [(vu z8x2), (vu z8x3), (vu z8x4), (vu z8x5), (vu z8x6)]), (Blk.row (.int .i64) z8x0 3 z8q0), (Blk.row (.int .i64) z8x1 2 z8q1)], []⟩))))) (rqn 3 (next ⟨[(1, (vi z8x7)), (2, (V.ptr 0 0)), (7, (V.row 1 1 (List.length z8x0) z8q0)), (8, (vi z8x8)), (9, (V.row 2 1 (List.length z8x1) z8q1)), (10, (vi (wI (z8x9 - 1)))), (36, (vb (decide (z8x9 ≥ 0)))), (44, (vb (decide ((List.getD z8x1 (Int.toNat z8x9) 0) ≤ z8x7))))], [(Blk.cells [(vu z8x2), (vu z8x3), (vu z8x4), (vu z8x5), (vu z8x6)]), (Blk.row (.int .i64) z8x0 3 z8q0), (Blk.row (.int .i64) z8x1 2 z8q1)], []⟩))))))) (wkK 3 K (.exit 2) ⟨[(1, (vi z8x7)), (2, (V.ptr 0 0)), (7, (V.row 1 1 (List.length z8x0) z8q0)), (8, (vi z8x8)), (9, (V.row 2 1 (List.length z8x1) z8q1)), (10, (vi z8x9)), (36, (vb (decide (z8x9 ≥ 0))))], [(Blk.cells [(vu z8x2), (vu z8x3), (vu z8x4), (vu z8x5), (vu z8x6)]), (Blk.row (.int .i64) z8x0 3 z8q0), (Blk.row (.int .i64) z8x1 2 z8q1)], []⟩))) := by kernel_rfl
theorem q20_0_ok (n : Nat) : Owed q20_cx okT 20 q20_lp (n + 0) q20_0_lp := loop_owed (fun z y h => h) fun k zz qq cc y9_ K h hK next hnext => by
  obtain ⟨z8x0, z8x1, z8x2, z8x3, z8x4, z8x5, z8x6, z8x7, z8x8, z8x9⟩ := zz
  obtain ⟨z8q0, z8q1⟩ := qq
  refine cast (q20_0_round n z8x0 z8x1 z8x2 z8x3 z8x4 z8x5 z8x6 z8x7 z8x8 z8x9 z8q0 z8q1 K next).symm ?_
  simp only [curfewref08_Last_l0] at h
  refine rqn_intro 2 ?_
  refine br_both h (fun hb h => ?_) (fun hb h => ?_)
  · refine rqn_intro 2 ?_
    obtain ⟨q, h⟩ := req_of h
    refine req_intro (band (band_l q) (band_r q)) ?_
    obtain ⟨q, h⟩ := req_of h
    refine req_intro q ?_
    refine rqn_intro 2 ?_
    refine br_both h (fun hb h => ?_) (fun hb h => ?_)
    · refine rqn_intro 2 ?_
      obtain ⟨q, h⟩ := req_of h
      refine req_intro (band (band_l q) (band_r q)) ?_
      obtain ⟨q, h⟩ := req_of h
      refine req_intro q ?_
      refine rqn_intro 2 ?_
      subst h
      refine ⟨_, ?_, hK⟩
      exact wk_of (Or.inr ⟨⟨Or.inl rfl, Or.inl rfl, trivial⟩, ⟨Or.inl rfl, Or.inl rfl, Or.inl rfl, trivial⟩, rfl, rfl, rfl⟩)
    · refine rqn_intro 3 ?_
      exact hnext (z8x0, z8x1, z8x2, z8x3, z8x4, z8x5, z8x6, z8x7, z8x8, (wI (z8x9 - 1))) _ h hK ⟨(), wk_of (Or.inr ⟨⟨Or.inl rfl, Or.inl rfl, Or.inl rfl, Or.inl rfl, Or.inl rfl, Or.inl rfl, trivial⟩, ⟨Or.inl rfl, Or.inl rfl, Or.inl rfl, trivial⟩, rfl, rfl, rfl⟩)⟩
  · subst h
    refine ⟨_, ?_, hK⟩
    exact wk_of (Or.inr ⟨⟨Or.inl rfl, Or.inl rfl, Or.inl rfl, Or.inl rfl, trivial⟩, ⟨Or.inl rfl, Or.inl rfl, Or.inl rfl, trivial⟩, rfl, rfl, rfl⟩)
theorem q20_1_round (n : Nat) (z4x0 : List Int) (z4x1 : Int) (z4x2 : Int) (z4x3 : Int) (z4x4 : Int) (z4x5 : Int) (z4x6 : Int) (z4x7 : Int) (z4q0 : Nat) (K : Ret → S → Prop) (next : S → Prop) : acode q20_cx 20 (acall q20_cx okT q20_lp (n + 1)) (okT 20) (q20_lp (n + 1) 20) none q20_1_body (iterK (wkK 2 K) next) (q20_1_st (z4x0, z4x1, z4x2, z4x3, z4x4, z4x5, z4x6, z4x7) z4q0 ()) =
    (rqn 2 (br (decide (z4x7 ≥ 0)) (rqn 4 (req ((decide (0 ≤ z4x7)) && (decide (z4x7 < (((List.length z4x0) : Nat) : Int)))) (req (Nat.blt (Int.toNat z4x7) (List.length z4x0)) (req true (∃ y6 : List Int, (curfewref08_On_R z4x1 z4x2 z4x3 z4x4 z4x5 (List.getD z4x0 (Int.toNat z4x7) 0) y6) ∧ (∀ c7 : Nat, (rqn 5 (((none : Option Nat) = (none : Option Nat)) ∧ (q20_0_body = q20_0_body) ∧ ∃ z10 : curfewref08_Last_l0_Z, ∃ z10q : q20_0_Q, ∃ y11 : curfewref08_Last_l0_Y, (3 = 3) ∧ (∃ zc : q20_0_C, wk 3 ⟨[(1, (vi z4x6)), (2, (V.ptr 0 0)), (7, (V.row 1 1 (List.length z4x0) z4q0)), (8, (vi z4x7)), (23, (vb (decide (z4x7 ≥ 0)))), (9, (V.row 2 1 (List.length y6) c7)), (10, (vi (wI ((((List.length y6) : Nat) : Int) - 1))))], [(Blk.cells [(vu z4x1), (vu z4x2), (vu z4x3), (vu z4x4), (vu z4x5)]), (Blk.row (.int .i64) z4x0 3 z4q0), (Blk.row (.int .i64) y6 2 c7)], []⟩ (q20_0_st z10 z10q zc)) ∧ (∃ k, curfewref08_Last_l0 k z10 y11) ∧ sume (fun y11 => (wkK 2 K .ret ⟨[(4, (vi y11)), (5, (vb true))], [(Blk.cells [(vu (z10.2.2.1)), (vu (z10.2.2.2.1)), (vu (z10.2.2.2.2.1)), (vu (z10.2.2.2.2.2.1)), (vu (z10.2.2.2.2.2.2.1))]), (Blk.row (.int .i64) (z10.1) 3 (z10q.1)), (Blk.row (.int .i64) (z10.2.1) 2 (z10q.2))], []⟩)) (fun y11 => (rqn 3 (next ⟨[(1, (vi (z10.2.2.2.2.2.2.2.1))), (2, (V.ptr 0 0)), (7, (V.row 1 1 (List.length (z10.1)) (z10q.1))), (8, (vi (wI ((z10.2.2.2.2.2.2.2.2.1) - 1))))], [(Blk.cells [(vu (z10.2.2.1)), (vu (z10.2.2.2.1)), (vu (z10.2.2.2.2.1)), (vu (z10.2.2.2.2.2.1)), (vu (z10.2.2.2.2.2.2.1))]), (Blk.row (.int .i64) (z10.1) 3 (z10q.1)), (Blk.row (.int .i64) (z10.2.1) 2 (z10q.2))], []⟩))) y11)))))))) (wkK 2 K (.exit 0) ⟨[(1, (vi z4x6)), (2, (V.ptr 0 0)), (7, (V.row 1 1 (List.length z4x0) z4q0)), (8, (vi z4x7)), (23, (vb (decide (z4x7 ≥ 0))))], [(Blk.cells [(vu z4x1), (vu z4x2), (vu z4x3), (vu z4x4), (vu z4x5)]), (Blk.row (.int .i64) z4x0 3 z4q0)], []⟩))) := by kernel_rfl
theorem q20_1_ok (n : Nat) : Owed q20_cx okT 20 q20_lp (n + 1) q20_1_lp := loop_owed (fun z y h => h) fun k zz z4q0 cc y5_ K h hK next hnext => by
  obtain ⟨z4x0, z4x1, z4x2, z4x3, z4x4, z4x5, z4x6, z4x7⟩ := zz
  refine cast (q20_1_round n z4x0 z4x1 z4x2 z4x3 z4x4 z4x5 z4x6 z4x7 z4q0 K next).symm ?_
  simp only [curfewref08_Last_l1] at h
  refine rqn_intro 2 ?_
  refine br_both h (fun hb h => ?_) (fun hb h => ?_)
  · refine rqn_intro 4 ?_
    obtain ⟨q, h⟩ := req_of h
    refine req_intro (band (band_l q) (band_r q)) ?_
    obtain ⟨q, h⟩ := req_of h
    refine req_intro q ?_
    refine req_intro rfl ?_
    refine ex_both h fun y6 h => ?_
    intro c7
    refine rqn_intro 5 ?_
    obtain ⟨y11, ry11, h⟩ := h
    refine ⟨rfl, rfl, (z4x0, y6, z4x1, z4x2, z4x3, z4x4, z4x5, z4x6, z4x7, (wI ((((List.length y6) : Nat) : Int) - 1))), (z4q0, c7), y11, rfl, ⟨(), wk_of (Or.inr ⟨⟨Or.inl rfl, Or.inl rfl, Or.inl rfl, Or.inl rfl, Or.inl rfl, Or.inl rfl, trivial⟩, ⟨Or.inl rfl, Or.inl rfl, Or.inl rfl, trivial⟩, rfl, rfl, rfl⟩)⟩, ry11, ?_⟩
    refine sume_both h (fun y11 h => ?_) (fun y11 h => ?_)
    · subst h
      refine ⟨_, ?_, hK⟩
      exact ⟨_, ⟨[(4, (vi y11)), (5, (vb true))], [(Blk.cells [(vu z4x1), (vu z4x2), (vu z4x3), (vu z4x4), (vu z4x5)]), (Blk.row (.int .i64) z4x0 3 z4q0), Blk.dead], []⟩, ⟨[], rfl, rfl⟩, Or.inr ⟨[0, 1, 0], rfl, rfl, rfl, rfl, rfl, ⟨rfl, rfl, trivial⟩, ⟨Or.inr rfl, Or.inr rfl, Or.inl rfl, trivial⟩, rfl, rfl⟩, Or.inr ⟨⟨Or.inl rfl, Or.inl rfl, trivial⟩, ⟨Or.inl rfl, Or.inl rfl, Or.inl rfl, trivial⟩, rfl, rfl, rfl⟩⟩
    · refine rqn_intro 3 ?_
      exact hnext (z4x0, z4x1, z4x2, z4x3, z4x4, z4x5, z4x6, (wI (z4x7 - 1))) _ h hK ⟨(), wk_of (Or.inr ⟨⟨Or.inl rfl, Or.inl rfl, Or.inl rfl, Or.inl rfl, trivial⟩, ⟨Or.inl rfl, Or.inl rfl, trivial⟩, rfl, rfl, rfl⟩)⟩
  · subst h
    refine ⟨_, ?_, hK⟩
    exact wk_of (Or.inr ⟨trivial, ⟨Or.inl rfl, Or.inl rfl, trivial⟩, rfl, rfl, rfl⟩)
theorem q20_lpok : LpOk q20_cx okT q20_lp := LpOk_tab ⟨q20_0_ok, q20_1_ok, trivial⟩
def curfewref08_Last_R (a0 : Int) (a1 : Int) (a2 : Int) (a3 : Int) (a4 : Int) (a5 : Int) (y : Int × Bool) : Prop :=
  (∃ y1 : Int, (curfewref08_Day_R a5 y1) ∧ (∃ y2 : List Int, (curfewref08_Fit_R a0 a1 a2 a3 a4 (if 0 > (IntKind.wrap .i64 (y1 - 2922)) then 0 else (IntKind.wrap .i64 (y1 - 2922))) y1 y2) ∧ (∃ y13 : curfewref08_Last_l1_Y, curfewref08_Last_l1_L (y2, a0, a1, a2, a3, a4, a5, (IntKind.wrap .i64 ((((List.length y2) : Nat) : Int) - 1))) y13 ∧ sume (fun y13 => ((y13, true) = y)) (fun y13 => ((0, false) = y)) y13)))
theorem q20_tree (a0 : Int) (a1 : Int) (a2 : Int) (a3 : Int) (a4 : Int) (a5 : Int) (y : Int × Bool) : acall q20_cx okT q20_lp 60 (.fn 20 [] []) [(V.agg [(V.int .u64 a0), (V.int .u64 a1), (V.int .u64 a2), (V.int .u64 a3), (V.int .u64 a4)]), (V.int .i64 a5)] [] (leafK (.tup (.cons (.int .i64) (.one .bool))) y) =
    (rqn 4 (∃ y1 : Int, (curfewref08_Day_R a5 y1) ∧ (rqn 7 (∃ y2 : List Int, (curfewref08_Fit_R a0 a1 a2 a3 a4 (if 0 > (wI (y1 - 2922)) then 0 else (wI (y1 - 2922))) y1 y2) ∧ (∀ c3 : Nat, (rqn 5 (((none : Option Nat) = (none : Option Nat)) ∧ (q20_1_body = q20_1_body) ∧ ∃ z12 : curfewref08_Last_l1_Z, ∃ z12q : q20_1_Q, ∃ y13 : curfewref08_Last_l1_Y, (2 = 2) ∧ (∃ zc : q20_1_C, wk 2 ⟨[(0, (V.agg [(vu a0), (vu a1), (vu a2), (vu a3), (vu a4)])), (1, (vi a5)), (2, (V.ptr 0 0)), (4, (vi 0)), (5, (vb false)), (6, (vi y1)), (7, (V.row 1 1 (List.length y2) c3)), (8, (vi (wI ((((List.length y2) : Nat) : Int) - 1))))], [(Blk.cells [(vu a0), (vu a1), (vu a2), (vu a3), (vu a4)]), (Blk.row (.int .i64) y2 3 c3)], []⟩ (q20_1_st z12 z12q zc)) ∧ (∃ k, curfewref08_Last_l1 k z12 y13) ∧ sume (fun y13 => (req true ((y13, true) = y))) (fun y13 => (rqn 2 (req true ((0, false) = y)))) y13))))))) := by kernel_rfl
theorem q20_run (a0 : Int) (a1 : Int) (a2 : Int) (a3 : Int) (a4 : Int) (a5 : Int) (y : Int × Bool) (h : curfewref08_Last_R a0 a1 a2 a3 a4 a5 y) : acall q20_cx okT q20_lp 60 (.fn 20 [] []) [(V.agg [(V.int .u64 a0), (V.int .u64 a1), (V.int .u64 a2), (V.int .u64 a3), (V.int .u64 a4)]), (V.int .i64 a5)] [] (leafK (.tup (.cons (.int .i64) (.one .bool))) y) := by
  refine cast (q20_tree a0 a1 a2 a3 a4 a5 y).symm ?_
  unfold curfewref08_Last_R at h
  refine rqn_intro 4 ?_
  refine ex_both h fun y1 h => ?_
  refine rqn_intro 7 ?_
  refine ex_both h fun y2 h => ?_
  intro c3
  refine rqn_intro 5 ?_
  obtain ⟨y13, ry13, h⟩ := h
  refine ⟨rfl, rfl, (y2, a0, a1, a2, a3, a4, a5, (wI ((((List.length y2) : Nat) : Int) - 1))), c3, y13, rfl, ⟨(), wk_of (Or.inr ⟨⟨Or.inl rfl, Or.inl rfl, Or.inl rfl, Or.inl rfl, trivial⟩, ⟨Or.inl rfl, Or.inl rfl, trivial⟩, rfl, rfl, rfl⟩)⟩, ry13, ?_⟩
  refine sume_both h (fun y13 h => ?_) (fun y13 h => ?_)
  · exact req_intro rfl h
  · refine rqn_intro 2 ?_
    exact req_intro rfl h
theorem curfewref08_Last_ok : FxOk Tryd.prog gsT 20 (.cons (.agg (.cons (.int .u64) (.cons (.int .u64) (.cons (.int .u64) (.cons (.int .u64) (.one (.int .u64))))))) (.one (.int .i64))) (.tup (.cons (.int .i64) (.one .bool))) fun x y => curfewref08_Last_R (x.1.1) (x.1.2.1) (x.1.2.2.1) (x.1.2.2.2.1) (x.1.2.2.2.2) (x.2) y := fx_of (c := q20_cx) (ty_ok rfl) (eq_ok rfl) q20_fns follows_ok (ok := okT) (lp := q20_lp) (n := 60) q20_lpok (enters Tryd.func20 (by kernel_rfl) rfl) (fun y => ⟨_, rfl⟩) fun x y h => q20_run _ _ _ _ _ _ y h
noncomputable def q22_cx : Cx := ⟨tyT, [(22, .body Tryd.f22),
  (48, .fx (.cons (.agg (.cons (.int .u64) (.cons (.int .u64) (.cons (.int .u64) (.cons (.int .u64) (.one (.int .u64))))))) (.cons (.int .i64) (.one (.int .i64)))) (.nw (.int .i64) 3) fun x y => curfewref08_Fit_R (x.1.1) (x.1.2.1) (x.1.2.2.1) (x.1.2.2.2.1) (x.1.2.2.2.2) (x.2.1) (x.2.2) y)], gsT, eqT⟩
theorem q22_fns : FnsOk Tryd.prog q22_cx := Fns_assoc ⟨body_ent Tryd.func22 (by kernel_rfl) (by kernel_rfl), curfewref08_Fit_ok, trivial⟩
def curfewref08_Ever_R (a0 : Int) (a1 : Int) (a2 : Int) (a3 : Int) (a4 : Int) (y : Bool) : Prop :=
  (∃ y1 : List Int, (curfewref08_Fit_R a0 a1 a2 a3 a4 0 2922 y1) ∧ ((decide ((((List.length y1) : Nat) : Int) > 0)) = y))
theorem q22_tree (a0 : Int) (a1 : Int) (a2 : Int) (a3 : Int) (a4 : Int) (y : Bool) : acall q22_cx okT lpT 60 (.fn 22 [] []) [(V.agg [(V.int .u64 a0), (V.int .u64 a1), (V.int .u64 a2), (V.int .u64 a3), (V.int .u64 a4)])] [] (leafK .bool y) =
    (rqn 3 (∃ y1 : List Int, (curfewref08_Fit_R a0 a1 a2 a3 a4 0 2922 y1) ∧ (∀ c2 : Nat, (rqn 3 (req true ((decide ((((List.length y1) : Nat) : Int) > 0)) = y)))))) := by kernel_rfl
theorem q22_run (a0 : Int) (a1 : Int) (a2 : Int) (a3 : Int) (a4 : Int) (y : Bool) (h : curfewref08_Ever_R a0 a1 a2 a3 a4 y) : acall q22_cx okT lpT 60 (.fn 22 [] []) [(V.agg [(V.int .u64 a0), (V.int .u64 a1), (V.int .u64 a2), (V.int .u64 a3), (V.int .u64 a4)])] [] (leafK .bool y) := by
  refine cast (q22_tree a0 a1 a2 a3 a4 y).symm ?_
  unfold curfewref08_Ever_R at h
  refine rqn_intro 3 ?_
  refine ex_both h fun y1 h => ?_
  intro c2
  refine rqn_intro 3 ?_
  exact req_intro rfl h
theorem curfewref08_Ever_ok : FxOk Tryd.prog gsT 22 (.one (.agg (.cons (.int .u64) (.cons (.int .u64) (.cons (.int .u64) (.cons (.int .u64) (.one (.int .u64)))))))) .bool fun x y => curfewref08_Ever_R (x.1) (x.2.1) (x.2.2.1) (x.2.2.2.1) (x.2.2.2.2) y := fx_of (c := q22_cx) (ty_ok rfl) (eq_ok rfl) q22_fns follows_ok (ok := okT) (lp := lpT) (n := 60) lp_ok (enters Tryd.func22 (by kernel_rfl) rfl) (fun y => ⟨_, rfl⟩) fun x y h => q22_run _ _ _ _ _ y h
noncomputable def q15_cx : Cx := ⟨tyT, [(15, .body Tryd.f15),
  (19, .fx (.cons (.agg (.cons (.int .u64) (.cons (.int .u64) (.cons (.int .u64) (.cons (.int .u64) (.one (.int .u64))))))) (.one (.int .i64))) (.tup (.cons (.int .i64) (.one .bool))) fun x y => curfewref08_Next_R (x.1.1) (x.1.2.1) (x.1.2.2.1) (x.1.2.2.2.1) (x.1.2.2.2.2) (x.2) y)], gsT, eqT⟩
theorem q15_fns : FnsOk Tryd.prog q15_cx := Fns_assoc ⟨body_ent Tryd.func15 (by kernel_rfl) (by kernel_rfl), curfewref08_Next_ok, trivial⟩
noncomputable def q15_0_body : Code := subC [1, 1, 1, 0, 0, 0] (bodyOf Tryd.f15)
abbrev curfewref08_Some_l0_Z : Type := List Int × Int × Int × Int × Int × Int × Int × Int × Int × Int
abbrev curfewref08_Some_l0_Y : Type := List Int
abbrev q15_0_C : Type := Nat
abbrev q15_0_Q : Type := Unit
noncomputable def q15_0_st (z1 : curfewref08_Some_l0_Z) (z1q : q15_0_Q) (z1c : q15_0_C) : S := ⟨[(2, (vi (z1.2.2.2.2.2.2.2.2.1))), (3, (V.ptr 0 0)), (4, (V.ptr 1 0)), (7, (V.row 2 1 (List.length (z1.1)) z1c)), (8, (vi (z1.2.2.2.2.2.2.2.2.2)))], [(Blk.cells [(vu (z1.2.1)), (vu (z1.2.2.1)), (vu (z1.2.2.2.1)), (vu (z1.2.2.2.2.1)), (vu (z1.2.2.2.2.2.1))]), (Blk.cells [(vi (z1.2.2.2.2.2.2.1)), (vi (z1.2.2.2.2.2.2.2.1))]), (Blk.row (.int .i64) (z1.1) 2 z1c)], []⟩
def q15_0_K (K : Ret → S → Prop) (z1 : curfewref08_Some_l0_Z) (z1q : q15_0_Q) (y2 : curfewref08_Some_l0_Y) : Prop := (∀ y2c : Nat, K (.exit 0) ⟨[(7, (V.row 2 1 (List.length y2) y2c))], [(Blk.cells [(vu (z1.2.1)), (vu (z1.2.2.1)), (vu (z1.2.2.2.1)), (vu (z1.2.2.2.2.1)), (vu (z1.2.2.2.2.2.1))]), (Blk.cells [(vi (z1.2.2.2.2.2.2.1)), (vi (z1.2.2.2.2.2.2.2.1))]), (Blk.row (.int .i64) y2 2 y2c)], []⟩)
def curfewref08_Some_l0 : Nat → curfewref08_Some_l0_Z → curfewref08_Some_l0_Y → Prop
  | 0, _, _ => False
  | k + 1, (z1x0, z1x1, z1x2, z1x3, z1x4, z1x5, z1x6, z1x7, z1x8, z1x9), y2_ => (br (decide ((((List.length z1x0) : Nat) : Int) < z1x8)) (∃ y3 : Int × Bool, (curfewref08_Next_R z1x1 z1x2 z1x3 z1x4 z1x5 z1x9 y3) ∧ (br (!(y3.2)) (z1x0 = y2_) (br (decide ((y3.1) > z1x7)) (z1x0 = y2_) (req (Nat.ble ((List.length (z1x0 ++ [(y3.1)])) * 9) 140737488355328) (curfewref08_Some_l0 k ((z1x0 ++ [(y3.1)]), z1x1, z1x2, z1x3, z1x4, z1x5, z1x6, z1x7, z1x8, (y3.1)) y2_))))) (z1x0 = y2_))
def curfewref08_Some_l0_L (z : curfewref08_Some_l0_Z) (y : curfewref08_Some_l0_Y) : Prop := ∃ k, curfewref08_Some_l0 k z y
noncomputable def q15_0_lp : Lp := .auto none q15_0_body (loopG 2 q15_0_st (fun z y => ∃ k, curfewref08_Some_l0 k z y) q15_0_K)
noncomputable def q15_lp : Nat → FuncId → Nat → Nat → Lp := lpTab [(15, 3, 2, 1, q15_0_lp)]
theorem q15_0_round (n : Nat) (z1x0 : List Int) (z1x1 : Int) (z1x2 : Int) (z1x3 : Int) (z1x4 : Int) (z1x5 : Int) (z1x6 : Int) (z1x7 : Int) (z1x8 : Int) (z1x9 : Int) (z1k0 : Nat) (K : Ret → S → Prop) (next : S → Prop) : acode q15_cx 15 (acall q15_cx okT q15_lp (n + 1)) (okT 15) (q15_lp (n + 1) 15) none q15_0_body (iterK (wkK 2 K) next) (q15_0_st (z1x0, z1x1, z1x2, z1x3, z1x4, z1x5, z1x6, z1x7, z1x8, z1x9) () z1k0) =
    (rqn 4 (br (decide ((((List.length z1x0) : Nat) : Int) < z1x8)) (rqn 3 (∃ y3 : Int × Bool, (curfewref08_Next_R z1x1 z1x2 z1x3 z1x4 z1x5 z1x9 y3) ∧ (rqn 8 (br (!(y3.2)) (req true (wkK 2 K (.exit 0) ⟨[(2, (vi z1x8)), (3, (V.ptr 0 0)), (4, (V.ptr 1 0)), (7, (V.row 2 1 (List.length z1x0) z1k0)), (8, (vi z1x9)), (16, (vb (decide ((((List.length z1x0) : Nat) : Int) < z1x8)))), (9, (vi (y3.1))), (10, (vb (y3.2))), (30, (vb true))], [(Blk.cells [(vu z1x1), (vu z1x2), (vu z1x3), (vu z1x4), (vu z1x5)]), (Blk.cells [(vi z1x6), (vi z1x7)]), (Blk.row (.int .i64) z1x0 2 z1k0)], []⟩)) (rqn 5 (br (decide ((y3.1) > z1x7)) (wkK 2 K (.exit 0) ⟨[(2, (vi z1x8)), (3, (V.ptr 0 0)), (4, (V.ptr 1 0)), (7, (V.row 2 1 (List.length z1x0) z1k0)), (8, (vi z1x9)), (16, (vb (decide ((((List.length z1x0) : Nat) : Int) < z1x8)))), (9, (vi (y3.1))), (10, (vb (y3.2))), (30, (vb (decide ((y3.1) > z1x7))))], [(Blk.cells [(vu z1x1), (vu z1x2), (vu z1x3), (vu z1x4), (vu z1x5)]), (Blk.cells [(vi z1x6), (vi z1x7)]), (Blk.row (.int .i64) z1x0 2 z1k0)], []⟩) (rqn 2 (req (((((true && true) && true) && (Nat.beq (List.length z1x0) (List.length z1x0))) && (Nat.beq z1k0 z1k0)) && (Nat.ble ((List.length (z1x0 ++ [(y3.1)])) * 9) 140737488355328)) (∀ c4 : Nat, (rqn 3 (next ⟨[(2, (vi z1x8)), (3, (V.ptr 0 0)), (4, (V.ptr 1 0)), (7, (V.row 4 1 (List.length (z1x0 ++ [(y3.1)])) c4)), (8, (vi (y3.1))), (16, (vb (decide ((((List.length z1x0) : Nat) : Int) < z1x8)))), (9, (vi (y3.1))), (10, (vb (y3.2))), (30, (vb (decide ((y3.1) > z1x7))))], [(Blk.cells [(vu z1x1), (vu z1x2), (vu z1x3), (vu z1x4), (vu z1x5)]), (Blk.cells [(vi z1x6), (vi z1x7)]), Blk.dead, (Blk.cells [(vi (y3.1))]), (Blk.row (.int .i64) (z1x0 ++ [(y3.1)]) 2 c4)], []⟩))))))))))) (wkK 2 K (.exit 0) ⟨[(2, (vi z1x8)), (3, (V.ptr 0 0)), (4, (V.ptr 1 0)), (7, (V.row 2 1 (List.length z1x0) z1k0)), (8, (vi z1x9)), (16, (vb (decide ((((List.length z1x0) : Nat) : Int) < z1x8))))], [(Blk.cells [(vu z1x1), (vu z1x2), (vu z1x3), (vu z1x4), (vu z1x5)]), (Blk.cells [(vi z1x6), (vi z1x7)]), (Blk.row (.int .i64) z1x0 2 z1k0)], []⟩))) := by kernel_rfl
theorem q15_0_ok (n : Nat) : Owed q15_cx okT 15 q15_lp (n + 1) q15_0_lp := loop_owed (fun z y h => h) fun k zz qq z1k0 y2_ K h hK next hnext => by
  obtain ⟨z1x0, z1x1, z1x2, z1x3, z1x4, z1x5, z1x6, z1x7, z1x8, z1x9⟩ := zz
  refine cast (q15_0_round n z1x0 z1x1 z1x2 z1x3 z1x4 z1x5 z1x6 z1x7 z1x8 z1x9 z1k0 K next).symm ?_
  simp only [curfewref08_Some_l0] at h
  refine rqn_intro 4 ?_
  refine br_both h (fun hb h => ?_) (fun hb h => ?_)
  · refine rqn_intro 3 ?_
    refine ex_both h fun y3 h => ?_
    refine rqn_intro 8 ?_
    refine br_both h (fun hb h => ?_) (fun hb h => ?_)
    · refine req_intro rfl ?_
      subst h
      refine ⟨_, ?_, hK z1k0⟩
      exact wk_of (Or.inr ⟨⟨Or.inl rfl, trivial⟩, ⟨Or.inl rfl, Or.inl rfl, Or.inl rfl, trivial⟩, rfl, rfl, rfl⟩)
    · refine rqn_intro 5 ?_
      refine br_both h (fun hb h => ?_) (fun hb h => ?_)
      · subst h
        refine ⟨_, ?_, hK z1k0⟩
        exact wk_of (Or.inr ⟨⟨Or.inl rfl, trivial⟩, ⟨Or.inl rfl, Or.inl rfl, Or.inl rfl, trivial⟩, rfl, rfl, rfl⟩)
      · refine rqn_intro 2 ?_
        obtain ⟨q, h⟩ := req_of h
        refine req_intro (band (band (band (band (band rfl rfl) rfl) (Nat.beq_refl _)) (Nat.beq_refl _)) q) ?_
        intro c4
        refine rqn_intro 3 ?_
        exact hnext ((z1x0 ++ [(y3.1)]), z1x1, z1x2, z1x3, z1x4, z1x5, z1x6, z1x7, z1x8, (y3.1)) _ h hK ⟨c4, ⟨_, ⟨[(2, (vi z1x8)), (3, (V.ptr 0 0)), (4, (V.ptr 1 0)), (7, (V.row 2 1 (List.length (z1x0 ++ [(y3.1)])) c4)), (8, (vi (y3.1)))], [(Blk.cells [(vu z1x1), (vu z1x2), (vu z1x3), (vu z1x4), (vu z1x5)]), (Blk.cells [(vi z1x6), (vi z1x7)]), (Blk.row (.int .i64) (z1x0 ++ [(y3.1)]) 2 c4)], []⟩, ⟨[], rfl, rfl⟩, Or.inr ⟨[0, 1, 4], rfl, rfl, rfl, rfl, rfl, ⟨rfl, rfl, rfl, rfl, rfl, trivial⟩, ⟨Or.inr rfl, Or.inr rfl, Or.inr rfl, trivial⟩, rfl, rfl⟩, Or.inr ⟨⟨Or.inl rfl, Or.inl rfl, Or.inl rfl, Or.inl rfl, Or.inl rfl, trivial⟩, ⟨Or.inl rfl, Or.inl rfl, Or.inl rfl, trivial⟩, rfl, rfl, rfl⟩⟩⟩
  · subst h
    refine ⟨_, ?_, hK z1k0⟩
    exact wk_of (Or.inr ⟨⟨Or.inl rfl, trivial⟩, ⟨Or.inl rfl, Or.inl rfl, Or.inl rfl, trivial⟩, rfl, rfl, rfl⟩)
theorem q15_lpok : LpOk q15_cx okT q15_lp := LpOk_tab ⟨q15_0_ok, trivial⟩
def curfewref08_Some_R (a0 : Int) (a1 : Int) (a2 : Int) (a3 : Int) (a4 : Int) (a5 : Int) (a6 : Int) (a7 : Int) (y : List Int) : Prop :=
  (∃ y6 : curfewref08_Some_l0_Y, curfewref08_Some_l0_L ([], a0, a1, a2, a3, a4, a5, a6, a7, a5) y6 ∧ (y6 = y))
theorem q15_tree (a0 : Int) (a1 : Int) (a2 : Int) (a3 : Int) (a4 : Int) (a5 : Int) (a6 : Int) (a7 : Int) (y : List Int) : acall q15_cx okT q15_lp 60 (.fn 15 [] []) [(V.agg [(V.int .u64 a0), (V.int .u64 a1), (V.int .u64 a2), (V.int .u64 a3), (V.int .u64 a4)]), (V.agg [(V.int .i64 a5), (V.int .i64 a6)]), (V.int .i64 a7)] [] (leafK (.nw (.int .i64) 2) y) =
    (rqn 5 (((none : Option Nat) = (none : Option Nat)) ∧ (q15_0_body = q15_0_body) ∧ ∃ z5 : curfewref08_Some_l0_Z, ∃ z5q : q15_0_Q, ∃ y6 : curfewref08_Some_l0_Y, (2 = 2) ∧ (∃ zc : q15_0_C, wk 2 ⟨[(0, (V.agg [(vu a0), (vu a1), (vu a2), (vu a3), (vu a4)])), (1, (V.agg [(vi a5), (vi a6)])), (2, (vi a7)), (3, (V.ptr 0 0)), (4, (V.ptr 1 0)), (6, (V.old (.slice none 0 0))), (7, (V.old (.slice none 0 0))), (8, (vi a5))], [(Blk.cells [(vu a0), (vu a1), (vu a2), (vu a3), (vu a4)]), (Blk.cells [(vi a5), (vi a6)])], []⟩ (q15_0_st z5 z5q zc)) ∧ (∃ k, curfewref08_Some_l0 k z5 y6) ∧ (∀ y6c : Nat, (rqn 2 (req ((Nat.beq (List.length y6) (List.length y6)) && (Nat.beq y6c y6c)) (y6 = y)))))) := by kernel_rfl
theorem q15_run (a0 : Int) (a1 : Int) (a2 : Int) (a3 : Int) (a4 : Int) (a5 : Int) (a6 : Int) (a7 : Int) (y : List Int) (h : curfewref08_Some_R a0 a1 a2 a3 a4 a5 a6 a7 y) : acall q15_cx okT q15_lp 60 (.fn 15 [] []) [(V.agg [(V.int .u64 a0), (V.int .u64 a1), (V.int .u64 a2), (V.int .u64 a3), (V.int .u64 a4)]), (V.agg [(V.int .i64 a5), (V.int .i64 a6)]), (V.int .i64 a7)] [] (leafK (.nw (.int .i64) 2) y) := by
  refine cast (q15_tree a0 a1 a2 a3 a4 a5 a6 a7 y).symm ?_
  unfold curfewref08_Some_R at h
  refine rqn_intro 5 ?_
  obtain ⟨y6, ry6, h⟩ := h
  refine ⟨rfl, rfl, ([], a0, a1, a2, a3, a4, a5, a6, a7, a5), (), y6, rfl, ⟨0, ⟨_, ⟨[(2, (vi a7)), (3, (V.ptr 0 0)), (4, (V.ptr 1 0)), (7, (V.old (.slice none 0 0))), (8, (vi a5))], [(Blk.cells [(vu a0), (vu a1), (vu a2), (vu a3), (vu a4)]), (Blk.cells [(vi a5), (vi a6)]), Blk.dead], []⟩, ⟨[], rfl, rfl⟩, Or.inr ⟨[0, 1, 0], rfl, rfl, rfl, rfl, rfl, ⟨rfl, rfl, rfl, rfl, rfl, trivial⟩, ⟨Or.inr rfl, Or.inr rfl, Or.inl rfl, trivial⟩, rfl, rfl⟩, Or.inr ⟨⟨Or.inl rfl, Or.inl rfl, Or.inl rfl, Or.inr (Or.inr (Or.inl ⟨rfl, Or.inl ⟨_, _, rfl⟩⟩)), Or.inl rfl, trivial⟩, ⟨Or.inl rfl, Or.inl rfl, Or.inr (Or.inr (Or.inl ⟨_, _, rfl⟩)), trivial⟩, rfl, rfl, rfl⟩⟩⟩, ry6, ?_⟩
  intro y6c
  refine rqn_intro 2 ?_
  exact req_intro (band (Nat.beq_refl _) (Nat.beq_refl _)) h
theorem curfewref08_Some_ok : FxOk Tryd.prog gsT 15 (.cons (.agg (.cons (.int .u64) (.cons (.int .u64) (.cons (.int .u64) (.cons (.int .u64) (.one (.int .u64))))))) (.cons (.agg (.cons (.int .i64) (.one (.int .i64)))) (.one (.int .i64)))) (.nw (.int .i64) 2) fun x y => curfewref08_Some_R (x.1.1) (x.1.2.1) (x.1.2.2.1) (x.1.2.2.2.1) (x.1.2.2.2.2) (x.2.1.1) (x.2.1.2) (x.2.2) y := fx_of (c := q15_cx) (ty_ok rfl) (eq_ok rfl) q15_fns follows_ok (ok := okT) (lp := q15_lp) (n := 60) q15_lpok (enters Tryd.func15 (by kernel_rfl) rfl) (fun y => ⟨_, rfl⟩) fun x y h => q15_run _ _ _ _ _ _ _ _ y h
end Go.Proofs.YtiffoefhadgdnaaDoor
