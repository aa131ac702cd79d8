/- What Go functions come to (printed by gb.py). -/
import Derived.Test.YtiffoefhadgdnaaDoorGxa
namespace Go.Proofs.YtiffoefhadgdnaaDoor
open Go Go.B Go.RowKit
set_option linter.unusedVariables false
set_option linter.unusedSimpArgs false
set_option maxRecDepth 100000
attribute [local irreducible] Go.B.acall Go.B.acode
def slices_Equal__int64_int64_R (a0 : List Int) (a1 : List Int) (y : Bool) : Prop :=
  (br ((((List.length a0) : Nat) : Int) != (((List.length a1) : Nat) : Int)) (false = y) (∃ y4 : slices_Equal__int64_int64_l0_Y, slices_Equal__int64_int64_l0_L (a0, a1, (((List.length a0) : Nat) : Int), 0) y4 ∧ sume (fun y4 => (false = y)) (fun y4 => (true = y)) y4))
theorem q16_tree (a0 : List Int) (a1 : List Int) (y : Bool) : acall q16_cx okT q16_lp 60 (.fn 16 [] []) [(V.sl (.int .i64) a0 none), (V.sl (.int .i64) a1 none)] [] (leafK .bool y) =
    (rqn 6 (br ((((List.length a0) : Nat) : Int) != (((List.length a1) : Nat) : Int)) (req true (req true (false = y))) (rqn 3 (((none : Option Nat) = (none : Option Nat)) ∧ (q16_0_body = q16_0_body) ∧ ∃ z3 : slices_Equal__int64_int64_l0_Z, ∃ z3q : q16_0_Q, ∃ y4 : slices_Equal__int64_int64_l0_Y, (0 = 0) ∧ (∃ zc : q16_0_C, wk 0 ⟨[(0, (V.sl (.int .i64) a0 none)), (1, (V.sl (.int .i64) a1 none)), (4, (vb false)), (10, (vb ((((List.length a0) : Nat) : Int) != (((List.length a1) : Nat) : Int)))), (12, (vi (((List.length a0) : Nat) : Int))), (13, (vi 0))], [], []⟩ (q16_0_st z3 z3q zc)) ∧ (∃ k, slices_Equal__int64_int64_l0 k z3 y4) ∧ sume (fun y4 => (req true (false = y))) (fun y4 => (req true (req true (true = y)))) y4)))) := by kernel_rfl
theorem q16_run (a0 : List Int) (a1 : List Int) (y : Bool) (h : slices_Equal__int64_int64_R a0 a1 y) : acall q16_cx okT q16_lp 60 (.fn 16 [] []) [(V.sl (.int .i64) a0 none), (V.sl (.int .i64) a1 none)] [] (leafK .bool y) := by
  refine cast (q16_tree a0 a1 y).symm ?_
  unfold slices_Equal__int64_int64_R at h
  refine rqn_intro 6 ?_
  refine br_both h (fun hb h => ?_) (fun hb h => ?_)
  · refine req_intro rfl ?_
    exact req_intro rfl h
  · refine rqn_intro 3 ?_
    obtain ⟨y4, ry4, h⟩ := h
    refine ⟨rfl, rfl, (a0, a1, (((List.length a0) : Nat) : Int), 0), (), y4, rfl, ⟨(), wk_of (Or.inr ⟨⟨Or.inl rfl, Or.inl rfl, Or.inl rfl, Or.inl rfl, trivial⟩, trivial, rfl, rfl, rfl⟩)⟩, ry4, ?_⟩
    refine sume_both h (fun y4 h => ?_) (fun y4 h => ?_)
    · exact req_intro rfl h
    · refine req_intro rfl ?_
      exact req_intro rfl h
theorem slices_Equal__int64_int64_ok : FxOk Tryd.prog gsT 16 (.cons (.sl (.int .i64)) (.one (.sl (.int .i64)))) .bool fun x y => slices_Equal__int64_int64_R (x.1) (x.2) y := fx_of (c := q16_cx) (ty_ok rfl) (eq_ok rfl) q16_fns follows_ok (ok := okT) (lp := q16_lp) (n := 60) q16_lpok (enters Tryd.func16 (by kernel_rfl) rfl) (fun y => ⟨_, rfl⟩) fun x y h => q16_run _ _ y h
noncomputable def q18_cx : Cx := ⟨tyT, [(18, .body Tryd.f18),
  (23, .fx (.one (.agg (.cons (.int .u64) (.cons (.int .u64) (.cons (.int .u64) (.cons (.int .u64) (.one (.int .u64)))))))) (.int .i64) fun x y => cron_Check_R (x.1) (x.2.1) (x.2.2.1) (x.2.2.2.1) (x.2.2.2.2) y),
  (39, .body Tryd.f39),
  (40, .fx (.one (.int .i64)) (.int .i64) fun x y => next_of_R x y),
  (42, .body Tryd.f42),
  (52, .fx (.cons (.agg (.cons (.int .u64) (.cons (.int .u64) (.cons (.int .u64) (.cons (.int .u64) (.one (.int .u64))))))) (.one (.agg (.cons (.int .i64) (.cons (.int .i64) (.one (.int .i64))))))) .bool fun x y => cron_Day_R (x.1.1) (x.1.2.1) (x.1.2.2.1) (x.1.2.2.2.1) (x.1.2.2.2.2) (x.2.1) (x.2.2.1) (x.2.2.2) y),
  (76, .body Tryd.f76),
  (77, .body Tryd.f77),
  (84, .fx (.one (.int .i64)) (.tup (.cons (.agg (.cons (.int .i64) (.cons (.int .i64) (.one (.int .i64))))) (.one (.int .i64)))) fun x y => days_At_R x y),
  (105, .body Tryd.f105),
  (106, .body Tryd.f106),
  (107, .body Tryd.f107),
  (127, .body Tryd.f127),
  (128, .fx (.one (.int .u64)) (.nw (.int .i64) 3) fun x y => mask_All_R x y)], gsT, eqT⟩
theorem q18_fns : FnsOk Tryd.prog q18_cx := Fns_assoc ⟨body_ent Tryd.func18 (by kernel_rfl) (by kernel_rfl), cron_Check_ok, body_ent Tryd.func39 (by kernel_rfl) (by kernel_rfl), next_of_ok, body_ent Tryd.func42 (by kernel_rfl) (by kernel_rfl), cron_Day_ok, body_ent Tryd.func76 (by kernel_rfl) (by kernel_rfl), body_ent Tryd.func77 (by kernel_rfl) (by kernel_rfl), days_At_ok, body_ent Tryd.func105 (by kernel_rfl) (by kernel_rfl), body_ent Tryd.func106 (by kernel_rfl) (by kernel_rfl), body_ent Tryd.func107 (by kernel_rfl) (by kernel_rfl), body_ent Tryd.func127 (by kernel_rfl) (by kernel_rfl), mask_All_ok, trivial⟩
noncomputable def q18_0_body : Code := subC [1, 1, 0, 0] (bodyOf Tryd.f127)
abbrev next_Last_l0_Z : Type := List Int × List Int × Int × Int × Int × Int × Int × Int × Int × Int × Int × Int
abbrev next_Last_l0_Y : Type := (Int) ⊕ (Unit)
abbrev q18_0_C : Type := Unit
abbrev q18_0_Q : Type := Nat × Nat
noncomputable def q18_0_st (z13 : next_Last_l0_Z) (z13q : q18_0_Q) (z13c : q18_0_C) : S := ⟨[(0, (V.yld 21)), (2, (V.ptr 20 0)), (4, (V.row 22 1 (List.length (z13.2.1)) (z13q.2))), (9, (vi (z13.2.2.2.2.2.2.2.2.2.2.1))), (10, (vi (z13.2.2.2.2.2.2.2.2.2.2.2)))], [(Blk.cells [(vu (z13.2.2.1)), (vu (z13.2.2.2.1)), (vu (z13.2.2.2.2.1)), (vu (z13.2.2.2.2.2.1)), (vu (z13.2.2.2.2.2.2.1))]), (Blk.cells [(vi (z13.2.2.2.2.2.2.2.1))]), (Blk.cells [(vu (z13.2.2.1)), (vu (z13.2.2.2.1)), (vu (z13.2.2.2.2.1)), (vu (z13.2.2.2.2.2.1)), (vu (z13.2.2.2.2.2.2.1))]), (Blk.cells [(V.fn 42 [] [(V.ptr 1 0)])]), (Blk.cells [(vi 0)]), (Blk.cells [(vb false)]), (Blk.cells [(vu (z13.2.2.1)), (vu (z13.2.2.2.1)), (vu (z13.2.2.2.2.1)), (vu (z13.2.2.2.2.2.1)), (vu (z13.2.2.2.2.2.2.1))]), (Blk.cells [(vu (z13.2.2.1)), (vu (z13.2.2.2.1)), (vu (z13.2.2.2.2.1)), (vu (z13.2.2.2.2.2.1)), (vu (z13.2.2.2.2.2.2.1))]), (Blk.cells [(vi (z13.2.2.2.2.2.2.2.2.1))]), (Blk.cells [(vb true)]), Blk.dfr, (Blk.loop .ready none ⟨39, [37], (subC [1, 0, 1, 1, 1, 0, 1, 0, 0, 1, 1, 0, 0, 1, 1, 1, 1, 1, 0, 0] (bodyOf Tryd.f39)), (subC [1, 0, 1, 1, 1, 0, 1, 0, 0, 1, 1, 0, 0, 1, 1, 1, 1, 1, 0, 1] (bodyOf Tryd.f39)), [(7, (V.ptr 3 0)), (8, (V.ptr 4 0)), (9, (V.ptr 5 0))], 10⟩), (Blk.cells [(V.yld 11)]), (Blk.cells [(vu (z13.2.2.2.1))]), (Blk.cells [(vb true)]), Blk.dfr, (Blk.loop .busy none ⟨106, [11], (subC [1, 1, 0, 0] (bodyOf Tryd.f106)), (subC [1, 1, 0, 1] (bodyOf Tryd.f106)), [(1, (V.ptr 7 0)), (2, (V.ptr 9 0)), (3, (V.ptr 8 0)), (4, (V.ptr 12 0))], 15⟩), (Blk.row (.int .i64) (z13.1) 3 (z13q.1)), (Blk.cells [(vi (z13.2.2.2.2.2.2.2.2.2.1))]), (Blk.cells [(vu (z13.2.2.1))]), (Blk.cells [(vb true)]), (Blk.loop .ready none ⟨106, [16], (subC [1, 1, 0, 1, 0, 1, 0, 0] (bodyOf Tryd.f106)), (subC [1, 1, 0, 1, 0, 1, 0, 1] (bodyOf Tryd.f106)), [(3, (V.ptr 8 0)), (4, (V.ptr 12 0)), (5, (V.ptr 18 0))], 15⟩), (Blk.row (.int .i64) (z13.2.1) 3 (z13q.2))], []⟩
def q18_0_K (K : Ret → S → Prop) (z13 : next_Last_l0_Z) (z13q : q18_0_Q) (y14 : next_Last_l0_Y) : Prop := sume (fun y14 => K .ret ⟨[], [(Blk.cells [(vu (z13.2.2.1)), (vu (z13.2.2.2.1)), (vu (z13.2.2.2.2.1)), (vu (z13.2.2.2.2.2.1)), (vu (z13.2.2.2.2.2.2.1))]), (Blk.cells [(vi (z13.2.2.2.2.2.2.2.1))]), (Blk.cells [(vu (z13.2.2.1)), (vu (z13.2.2.2.1)), (vu (z13.2.2.2.2.1)), (vu (z13.2.2.2.2.2.1)), (vu (z13.2.2.2.2.2.2.1))]), (Blk.cells [(V.fn 42 [] [(V.ptr 1 0)])]), (Blk.cells [(vi y14)]), (Blk.cells [(vb true)]), (Blk.cells [(vu (z13.2.2.1)), (vu (z13.2.2.2.1)), (vu (z13.2.2.2.2.1)), (vu (z13.2.2.2.2.2.1)), (vu (z13.2.2.2.2.2.2.1))]), (Blk.cells [(vu (z13.2.2.1)), (vu (z13.2.2.2.1)), (vu (z13.2.2.2.2.1)), (vu (z13.2.2.2.2.2.1)), (vu (z13.2.2.2.2.2.2.1))]), (Blk.cells [(vi (z13.2.2.2.2.2.2.2.2.1))]), (Blk.cells [(vb true)]), Blk.dfr, (Blk.loop .done (some (.exit 0)) ⟨39, [37], (subC [1, 0, 1, 1, 1, 0, 1, 0, 0, 1, 1, 0, 0, 1, 1, 1, 1, 1, 0, 0] (bodyOf Tryd.f39)), (subC [1, 0, 1, 1, 1, 0, 1, 0, 0, 1, 1, 0, 0, 1, 1, 1, 1, 1, 0, 1] (bodyOf Tryd.f39)), [(7, (V.ptr 3 0)), (8, (V.ptr 4 0)), (9, (V.ptr 5 0))], 10⟩), (Blk.cells [(V.yld 11)]), (Blk.cells [(vu (z13.2.2.2.1))]), (Blk.cells [(vb true)]), Blk.dfr, (Blk.loop .busy none ⟨106, [11], (subC [1, 1, 0, 0] (bodyOf Tryd.f106)), (subC [1, 1, 0, 1] (bodyOf Tryd.f106)), [(1, (V.ptr 7 0)), (2, (V.ptr 9 0)), (3, (V.ptr 8 0)), (4, (V.ptr 12 0))], 15⟩), (Blk.row (.int .i64) (z13.1) 3 (z13q.1)), (Blk.cells [(vi (z13.2.2.2.2.2.2.2.2.2.1))]), (Blk.cells [(vu (z13.2.2.1))]), (Blk.cells [(vb true)]), (Blk.loop .done (some .ret) ⟨106, [16], (subC [1, 1, 0, 1, 0, 1, 0, 0] (bodyOf Tryd.f106)), (subC [1, 1, 0, 1, 0, 1, 0, 1] (bodyOf Tryd.f106)), [(3, (V.ptr 8 0)), (4, (V.ptr 12 0)), (5, (V.ptr 18 0))], 15⟩), (Blk.row (.int .i64) (z13.2.1) 3 (z13q.2))], []⟩) (fun y14 => K (.exit 0) ⟨[], [(Blk.cells [(vu (z13.2.2.1)), (vu (z13.2.2.2.1)), (vu (z13.2.2.2.2.1)), (vu (z13.2.2.2.2.2.1)), (vu (z13.2.2.2.2.2.2.1))]), (Blk.cells [(vi (z13.2.2.2.2.2.2.2.1))]), (Blk.cells [(vu (z13.2.2.1)), (vu (z13.2.2.2.1)), (vu (z13.2.2.2.2.1)), (vu (z13.2.2.2.2.2.1)), (vu (z13.2.2.2.2.2.2.1))]), (Blk.cells [(V.fn 42 [] [(V.ptr 1 0)])]), (Blk.cells [(vi 0)]), (Blk.cells [(vb false)]), (Blk.cells [(vu (z13.2.2.1)), (vu (z13.2.2.2.1)), (vu (z13.2.2.2.2.1)), (vu (z13.2.2.2.2.2.1)), (vu (z13.2.2.2.2.2.2.1))]), (Blk.cells [(vu (z13.2.2.1)), (vu (z13.2.2.2.1)), (vu (z13.2.2.2.2.1)), (vu (z13.2.2.2.2.2.1)), (vu (z13.2.2.2.2.2.2.1))]), (Blk.cells [(vi (z13.2.2.2.2.2.2.2.2.1))]), (Blk.cells [(vb true)]), Blk.dfr, (Blk.loop .ready none ⟨39, [37], (subC [1, 0, 1, 1, 1, 0, 1, 0, 0, 1, 1, 0, 0, 1, 1, 1, 1, 1, 0, 0] (bodyOf Tryd.f39)), (subC [1, 0, 1, 1, 1, 0, 1, 0, 0, 1, 1, 0, 0, 1, 1, 1, 1, 1, 0, 1] (bodyOf Tryd.f39)), [(7, (V.ptr 3 0)), (8, (V.ptr 4 0)), (9, (V.ptr 5 0))], 10⟩), (Blk.cells [(V.yld 11)]), (Blk.cells [(vu (z13.2.2.2.1))]), (Blk.cells [(vb true)]), Blk.dfr, (Blk.loop .busy none ⟨106, [11], (subC [1, 1, 0, 0] (bodyOf Tryd.f106)), (subC [1, 1, 0, 1] (bodyOf Tryd.f106)), [(1, (V.ptr 7 0)), (2, (V.ptr 9 0)), (3, (V.ptr 8 0)), (4, (V.ptr 12 0))], 15⟩), (Blk.row (.int .i64) (z13.1) 3 (z13q.1)), (Blk.cells [(vi (z13.2.2.2.2.2.2.2.2.2.1))]), (Blk.cells [(vu (z13.2.2.1))]), (Blk.cells [(vb true)]), (Blk.loop .ready none ⟨106, [16], (subC [1, 1, 0, 1, 0, 1, 0, 0] (bodyOf Tryd.f106)), (subC [1, 1, 0, 1, 0, 1, 0, 1] (bodyOf Tryd.f106)), [(3, (V.ptr 8 0)), (4, (V.ptr 12 0)), (5, (V.ptr 18 0))], 15⟩), (Blk.row (.int .i64) (z13.2.1) 3 (z13q.2))], []⟩) y14
def next_Last_l0 : Nat → next_Last_l0_Z → next_Last_l0_Y → Prop
  | 0, _, _ => False
  | k + 1, (z13x0, z13x1, z13x2, z13x3, z13x4, z13x5, z13x6, z13x7, z13x8, z13x9, z13x10, z13x11), y14_ => (br (decide (z13x11 < z13x10)) (req ((decide (0 ≤ (IntKind.wrap .i64 ((IntKind.wrap .i64 ((((List.length z13x1) : Nat) : Int) - 1)) - z13x11)))) && (decide ((IntKind.wrap .i64 ((IntKind.wrap .i64 ((((List.length z13x1) : Nat) : Int) - 1)) - z13x11)) < (((List.length z13x1) : Nat) : Int)))) (req (Nat.blt (Int.toNat (IntKind.wrap .i64 ((IntKind.wrap .i64 ((((List.length z13x1) : Nat) : Int) - 1)) - z13x11))) (List.length z13x1)) (br (decide ((IntKind.wrap .i64 ((IntKind.wrap .i64 ((IntKind.wrap .i64 (z13x8 * 86400)) + (IntKind.wrap .i64 (z13x9 * 3600)))) + (IntKind.wrap .i64 ((List.getD z13x1 (Int.toNat (IntKind.wrap .i64 ((IntKind.wrap .i64 ((((List.length z13x1) : Nat) : Int) - 1)) - z13x11))) 0) * 60)))) ≤ z13x7)) ((Sum.inl (IntKind.wrap .i64 ((IntKind.wrap .i64 ((IntKind.wrap .i64 (z13x8 * 86400)) + (IntKind.wrap .i64 (z13x9 * 3600)))) + (IntKind.wrap .i64 ((List.getD z13x1 (Int.toNat (IntKind.wrap .i64 ((IntKind.wrap .i64 ((((List.length z13x1) : Nat) : Int) - 1)) - z13x11))) 0) * 60))))) = y14_) (next_Last_l0 k (z13x0, z13x1, z13x2, z13x3, z13x4, z13x5, z13x6, z13x7, z13x8, z13x9, z13x10, (IntKind.wrap .i64 (z13x11 + 1))) y14_)))) ((Sum.inr ()) = y14_))
def next_Last_l0_L (z : next_Last_l0_Z) (y : next_Last_l0_Y) : Prop := ∃ k, next_Last_l0 k z y
noncomputable def q18_0_lp : Lp := .auto none q18_0_body (loopG 23 q18_0_st (fun z y => ∃ k, next_Last_l0 k z y) q18_0_K)
noncomputable def q18_1_body : Code := subC [1, 1, 0, 0] (bodyOf Tryd.f127)
abbrev next_Last_l1_Z : Type := List Int × Int × Int × Int × Int × Int × Int × Int × Int × Int
abbrev next_Last_l1_Y : Type := (Int) ⊕ (Unit)
abbrev q18_1_C : Type := Unit
abbrev q18_1_Q : Type := Nat
noncomputable def q18_1_st (z9 : next_Last_l1_Z) (z9q : q18_1_Q) (z9c : q18_1_C) : S := ⟨[(0, (V.yld 16)), (2, (V.ptr 14 0)), (4, (V.row 17 1 (List.length (z9.1)) z9q)), (9, (vi (z9.2.2.2.2.2.2.2.2.1))), (10, (vi (z9.2.2.2.2.2.2.2.2.2)))], [(Blk.cells [(vu (z9.2.1)), (vu (z9.2.2.1)), (vu (z9.2.2.2.1)), (vu (z9.2.2.2.2.1)), (vu (z9.2.2.2.2.2.1))]), (Blk.cells [(vi (z9.2.2.2.2.2.2.1))]), (Blk.cells [(vu (z9.2.1)), (vu (z9.2.2.1)), (vu (z9.2.2.2.1)), (vu (z9.2.2.2.2.1)), (vu (z9.2.2.2.2.2.1))]), (Blk.cells [(V.fn 42 [] [(V.ptr 1 0)])]), (Blk.cells [(vi 0)]), (Blk.cells [(vb false)]), (Blk.cells [(vu (z9.2.1)), (vu (z9.2.2.1)), (vu (z9.2.2.2.1)), (vu (z9.2.2.2.2.1)), (vu (z9.2.2.2.2.2.1))]), (Blk.cells [(vu (z9.2.1)), (vu (z9.2.2.1)), (vu (z9.2.2.2.1)), (vu (z9.2.2.2.2.1)), (vu (z9.2.2.2.2.2.1))]), (Blk.cells [(vi (z9.2.2.2.2.2.2.2.1))]), (Blk.cells [(vb true)]), Blk.dfr, (Blk.loop .ready none ⟨39, [37], (subC [1, 0, 1, 1, 1, 0, 1, 0, 0, 1, 1, 0, 0, 1, 1, 1, 1, 1, 0, 0] (bodyOf Tryd.f39)), (subC [1, 0, 1, 1, 1, 0, 1, 0, 0, 1, 1, 0, 0, 1, 1, 1, 1, 1, 0, 1] (bodyOf Tryd.f39)), [(7, (V.ptr 3 0)), (8, (V.ptr 4 0)), (9, (V.ptr 5 0))], 10⟩), (Blk.cells [(V.yld 11)]), (Blk.cells [(vu (z9.2.2.1))]), (Blk.cells [(vb true)]), Blk.dfr, (Blk.loop .ready none ⟨106, [11], (subC [1, 1, 0, 0] (bodyOf Tryd.f106)), (subC [1, 1, 0, 1] (bodyOf Tryd.f106)), [(1, (V.ptr 7 0)), (2, (V.ptr 9 0)), (3, (V.ptr 8 0)), (4, (V.ptr 12 0))], 15⟩), (Blk.row (.int .i64) (z9.1) 3 z9q)], []⟩
def q18_1_K (K : Ret → S → Prop) (z9 : next_Last_l1_Z) (z9q : q18_1_Q) (y10 : next_Last_l1_Y) : Prop := sume (fun y10 => K .ret ⟨[], [(Blk.cells [(vu (z9.2.1)), (vu (z9.2.2.1)), (vu (z9.2.2.2.1)), (vu (z9.2.2.2.2.1)), (vu (z9.2.2.2.2.2.1))]), (Blk.cells [(vi (z9.2.2.2.2.2.2.1))]), (Blk.cells [(vu (z9.2.1)), (vu (z9.2.2.1)), (vu (z9.2.2.2.1)), (vu (z9.2.2.2.2.1)), (vu (z9.2.2.2.2.2.1))]), (Blk.cells [(V.fn 42 [] [(V.ptr 1 0)])]), (Blk.cells [(vi y10)]), (Blk.cells [(vb true)]), (Blk.cells [(vu (z9.2.1)), (vu (z9.2.2.1)), (vu (z9.2.2.2.1)), (vu (z9.2.2.2.2.1)), (vu (z9.2.2.2.2.2.1))]), (Blk.cells [(vu (z9.2.1)), (vu (z9.2.2.1)), (vu (z9.2.2.2.1)), (vu (z9.2.2.2.2.1)), (vu (z9.2.2.2.2.2.1))]), (Blk.cells [(vi (z9.2.2.2.2.2.2.2.1))]), (Blk.cells [(vb true)]), Blk.dfr, (Blk.loop .done (some (.exit 0)) ⟨39, [37], (subC [1, 0, 1, 1, 1, 0, 1, 0, 0, 1, 1, 0, 0, 1, 1, 1, 1, 1, 0, 0] (bodyOf Tryd.f39)), (subC [1, 0, 1, 1, 1, 0, 1, 0, 0, 1, 1, 0, 0, 1, 1, 1, 1, 1, 0, 1] (bodyOf Tryd.f39)), [(7, (V.ptr 3 0)), (8, (V.ptr 4 0)), (9, (V.ptr 5 0))], 10⟩), (Blk.cells [(V.yld 11)]), (Blk.cells [(vu (z9.2.2.1))]), (Blk.cells [(vb true)]), Blk.dfr, (Blk.loop .done (some .ret) ⟨106, [11], (subC [1, 1, 0, 0] (bodyOf Tryd.f106)), (subC [1, 1, 0, 1] (bodyOf Tryd.f106)), [(1, (V.ptr 7 0)), (2, (V.ptr 9 0)), (3, (V.ptr 8 0)), (4, (V.ptr 12 0))], 15⟩), (Blk.row (.int .i64) (z9.1) 3 z9q)], []⟩) (fun y10 => K (.exit 0) ⟨[], [(Blk.cells [(vu (z9.2.1)), (vu (z9.2.2.1)), (vu (z9.2.2.2.1)), (vu (z9.2.2.2.2.1)), (vu (z9.2.2.2.2.2.1))]), (Blk.cells [(vi (z9.2.2.2.2.2.2.1))]), (Blk.cells [(vu (z9.2.1)), (vu (z9.2.2.1)), (vu (z9.2.2.2.1)), (vu (z9.2.2.2.2.1)), (vu (z9.2.2.2.2.2.1))]), (Blk.cells [(V.fn 42 [] [(V.ptr 1 0)])]), (Blk.cells [(vi 0)]), (Blk.cells [(vb false)]), (Blk.cells [(vu (z9.2.1)), (vu (z9.2.2.1)), (vu (z9.2.2.2.1)), (vu (z9.2.2.2.2.1)), (vu (z9.2.2.2.2.2.1))]), (Blk.cells [(vu (z9.2.1)), (vu (z9.2.2.1)), (vu (z9.2.2.2.1)), (vu (z9.2.2.2.2.1)), (vu (z9.2.2.2.2.2.1))]), (Blk.cells [(vi (z9.2.2.2.2.2.2.2.1))]), (Blk.cells [(vb true)]), Blk.dfr, (Blk.loop .ready none ⟨39, [37], (subC [1, 0, 1, 1, 1, 0, 1, 0, 0, 1, 1, 0, 0, 1, 1, 1, 1, 1, 0, 0] (bodyOf Tryd.f39)), (subC [1, 0, 1, 1, 1, 0, 1, 0, 0, 1, 1, 0, 0, 1, 1, 1, 1, 1, 0, 1] (bodyOf Tryd.f39)), [(7, (V.ptr 3 0)), (8, (V.ptr 4 0)), (9, (V.ptr 5 0))], 10⟩), (Blk.cells [(V.yld 11)]), (Blk.cells [(vu (z9.2.2.1))]), (Blk.cells [(vb true)]), Blk.dfr, (Blk.loop .ready none ⟨106, [11], (subC [1, 1, 0, 0] (bodyOf Tryd.f106)), (subC [1, 1, 0, 1] (bodyOf Tryd.f106)), [(1, (V.ptr 7 0)), (2, (V.ptr 9 0)), (3, (V.ptr 8 0)), (4, (V.ptr 12 0))], 15⟩), (Blk.row (.int .i64) (z9.1) 3 z9q)], []⟩) y10
def next_Last_l1 : Nat → next_Last_l1_Z → next_Last_l1_Y → Prop
  | 0, _, _ => False
  | k + 1, (z9x0, z9x1, z9x2, z9x3, z9x4, z9x5, z9x6, z9x7, z9x8, z9x9), y10_ => (br (decide (z9x9 < z9x8)) (req ((decide (0 ≤ (IntKind.wrap .i64 ((IntKind.wrap .i64 ((((List.length z9x0) : Nat) : Int) - 1)) - z9x9)))) && (decide ((IntKind.wrap .i64 ((IntKind.wrap .i64 ((((List.length z9x0) : Nat) : Int) - 1)) - z9x9)) < (((List.length z9x0) : Nat) : Int)))) (req (Nat.blt (Int.toNat (IntKind.wrap .i64 ((IntKind.wrap .i64 ((((List.length z9x0) : Nat) : Int) - 1)) - z9x9))) (List.length z9x0)) (∃ y11 : List Int, (mask_All_R z9x1 y11) ∧ (∃ y16 : next_Last_l0_Y, next_Last_l0_L (z9x0, y11, z9x1, z9x2, z9x3, z9x4, z9x5, z9x6, z9x7, (List.getD z9x0 (Int.toNat (IntKind.wrap .i64 ((IntKind.wrap .i64 ((((List.length z9x0) : Nat) : Int) - 1)) - z9x9))) 0), (((List.length y11) : Nat) : Int), 0) y16 ∧ sume (fun y16 => ((Sum.inl y16) = y10_)) (fun y16 => (next_Last_l1 k (z9x0, z9x1, z9x2, z9x3, z9x4, z9x5, z9x6, z9x7, z9x8, (IntKind.wrap .i64 (z9x9 + 1))) y10_)) y16)))) ((Sum.inr ()) = y10_))
def next_Last_l1_L (z : next_Last_l1_Z) (y : next_Last_l1_Y) : Prop := ∃ k, next_Last_l1 k z y
noncomputable def q18_1_lp : Lp := .auto none q18_1_body (loopG 18 q18_1_st (fun z y => ∃ k, next_Last_l1 k z y) q18_1_K)
noncomputable def q18_2_body : Code := subC [1, 0, 1, 1, 1, 0, 1, 0, 0] (bodyOf Tryd.f39)
abbrev next_Last_l2_Z : Type := Int × Int × Int × Int × Int × Int × Int × Int
abbrev next_Last_l2_Y : Type := Int × Bool
abbrev q18_2_C : Type := Unit
abbrev q18_2_Q : Type := Unit
noncomputable def q18_2_st (z3 : next_Last_l2_Z) (z3q : q18_2_Q) (z3c : q18_2_C) : S := ⟨[(1, (vi (z3.2.2.2.2.2.2.1))), (2, (vb true)), (4, (V.ptr 2 0)), (7, (V.ptr 3 0)), (8, (V.ptr 4 0)), (9, (V.ptr 5 0)), (10, (V.fn 105 [] [(V.ptr 6 0)])), (19, (vi (z3.2.2.2.2.2.2.2)))], [(Blk.cells [(vu (z3.1)), (vu (z3.2.1)), (vu (z3.2.2.1)), (vu (z3.2.2.2.1)), (vu (z3.2.2.2.2.1))]), (Blk.cells [(vi (z3.2.2.2.2.2.1))]), (Blk.cells [(vu (z3.1)), (vu (z3.2.1)), (vu (z3.2.2.1)), (vu (z3.2.2.2.1)), (vu (z3.2.2.2.2.1))]), (Blk.cells [(V.fn 42 [] [(V.ptr 1 0)])]), (Blk.cells [(vi 0)]), (Blk.cells [(vb false)]), (Blk.cells [(vu (z3.1)), (vu (z3.2.1)), (vu (z3.2.2.1)), (vu (z3.2.2.2.1)), (vu (z3.2.2.2.2.1))])], []⟩
def q18_2_K (K : Ret → S → Prop) (z3 : next_Last_l2_Z) (z3q : q18_2_Q) (y4 : next_Last_l2_Y) : Prop := K (.exit 0) ⟨[(8, (V.ptr 4 0)), (9, (V.ptr 5 0))], [(Blk.cells [(vu (z3.1)), (vu (z3.2.1)), (vu (z3.2.2.1)), (vu (z3.2.2.2.1)), (vu (z3.2.2.2.2.1))]), (Blk.cells [(vi (z3.2.2.2.2.2.1))]), (Blk.cells [(vu (z3.1)), (vu (z3.2.1)), (vu (z3.2.2.1)), (vu (z3.2.2.2.1)), (vu (z3.2.2.2.2.1))]), (Blk.cells [(V.fn 42 [] [(V.ptr 1 0)])]), (Blk.cells [(vi (y4.1))]), (Blk.cells [(vb (y4.2))]), (Blk.cells [(vu (z3.1)), (vu (z3.2.1)), (vu (z3.2.2.1)), (vu (z3.2.2.2.1)), (vu (z3.2.2.2.2.1))]), Blk.dead, Blk.dead, Blk.dead, Blk.dead, Blk.dead], []⟩
def next_Last_l2 : Nat → next_Last_l2_Z → next_Last_l2_Y → Prop
  | 0, _, _ => False
  | k + 1, (z3x0, z3x1, z3x2, z3x3, z3x4, z3x5, z3x6, z3x7), y4_ => (br (decide (z3x7 < 2923)) (∃ y5 : (Int × Int × Int) × Int, (days_At_R (IntKind.wrap .i64 (z3x6 - z3x7)) y5) ∧ (br ((y5.2) == 0) (∃ y6 : Bool, (cron_Day_R z3x0 z3x1 z3x2 z3x3 z3x4 ((y5.1).1) (((y5.1).2).1) (((y5.1).2).2) y6) ∧ (br (!y6) (next_Last_l2 k (z3x0, z3x1, z3x2, z3x3, z3x4, z3x5, z3x6, (IntKind.wrap .i64 (z3x7 + 1))) y4_) (∃ y7 : List Int, (mask_All_R z3x1 y7) ∧ (∃ y18 : next_Last_l1_Y, next_Last_l1_L (y7, z3x0, z3x1, z3x2, z3x3, z3x4, z3x5, (IntKind.wrap .i64 (z3x6 - z3x7)), (((List.length y7) : Nat) : Int), 0) y18 ∧ sume (fun y18 => ((y18, true) = y4_)) (fun y18 => (next_Last_l2 k (z3x0, z3x1, z3x2, z3x3, z3x4, z3x5, z3x6, (IntKind.wrap .i64 (z3x7 + 1))) y4_)) y18)))) (next_Last_l2 k (z3x0, z3x1, z3x2, z3x3, z3x4, z3x5, z3x6, (IntKind.wrap .i64 (z3x7 + 1))) y4_))) ((0, false) = y4_))
def next_Last_l2_L (z : next_Last_l2_Z) (y : next_Last_l2_Y) : Prop := ∃ k, next_Last_l2 k z y
noncomputable def q18_2_lp : Lp := .auto none q18_2_body (loopG 7 q18_2_st (fun z y => ∃ k, next_Last_l2 k z y) q18_2_K)
noncomputable def q18_lp : Nat → FuncId → Nat → Nat → Lp := lpTab [(127, 2, 23, 3, q18_0_lp), (127, 2, 18, 5, q18_1_lp), (39, 5, 7, 7, q18_2_lp)]
theorem q18_0_round (n : Nat) (z13x0 : List Int) (z13x1 : List Int) (z13x2 : Int) (z13x3 : Int) (z13x4 : Int) (z13x5 : Int) (z13x6 : Int) (z13x7 : Int) (z13x8 : Int) (z13x9 : Int) (z13x10 : Int) (z13x11 : Int) (z13q0 : Nat) (z13q1 : Nat) (K : Ret → S → Prop) (next : S → Prop) : acode q18_cx 127 (acall q18_cx okT q18_lp (n + 3)) (okT 127) (q18_lp (n + 3) 127) none q18_0_body (iterK (wkK 23 K) next) (q18_0_st (z13x0, z13x1, z13x2, z13x3, z13x4, z13x5, z13x6, z13x7, z13x8, z13x9, z13x10, z13x11) (z13q0, z13q1) ()) =
    (req true (br (decide (z13x11 < z13x10)) (rqn 12 (req ((decide (0 ≤ (wI ((wI ((((List.length z13x1) : Nat) : Int) - 1)) - z13x11)))) && (decide ((wI ((wI ((((List.length z13x1) : Nat) : Int) - 1)) - z13x11)) < (((List.length z13x1) : Nat) : Int)))) (req (Nat.blt (Int.toNat (wI ((wI ((((List.length z13x1) : Nat) : Int) - 1)) - z13x11))) (List.length z13x1)) (rqn 20 (br (decide ((wI ((wI ((wI (z13x8 * 86400)) + (wI (z13x9 * 3600)))) + (wI ((List.getD z13x1 (Int.toNat (wI ((wI ((((List.length z13x1) : Nat) : Int) - 1)) - z13x11))) 0) * 60)))) ≤ z13x7)) (rqn 3 (wkK 23 K .ret ⟨[(0, (V.yld 21)), (2, (V.ptr 20 0)), (4, (V.row 22 1 (List.length z13x1) z13q1)), (9, (vi z13x10)), (10, (vi z13x11)), (11, (vb (decide (z13x11 < z13x10)))), (5, (vi (wI ((wI ((((List.length z13x1) : Nat) : Int) - 1)) - z13x11)))), (13, (vb true)), (25, (vb true))], [(Blk.cells [(vu z13x2), (vu z13x3), (vu z13x4), (vu z13x5), (vu z13x6)]), (Blk.cells [(vi z13x7)]), (Blk.cells [(vu z13x2), (vu z13x3), (vu z13x4), (vu z13x5), (vu z13x6)]), (Blk.cells [(V.fn 42 [] [(V.ptr 1 0)])]), (Blk.cells [(vi (wI ((wI ((wI (z13x8 * 86400)) + (wI (z13x9 * 3600)))) + (wI ((List.getD z13x1 (Int.toNat (wI ((wI ((((List.length z13x1) : Nat) : Int) - 1)) - z13x11))) 0) * 60)))))]), (Blk.cells [(vb true)]), (Blk.cells [(vu z13x2), (vu z13x3), (vu z13x4), (vu z13x5), (vu z13x6)]), (Blk.cells [(vu z13x2), (vu z13x3), (vu z13x4), (vu z13x5), (vu z13x6)]), (Blk.cells [(vi z13x8)]), (Blk.cells [(vb true)]), Blk.dfr, (Blk.loop .done (some (.exit 0)) ⟨39, [37], (subC [1, 0, 1, 1, 1, 0, 1, 0, 0, 1, 1, 0, 0, 1, 1, 1, 1, 1, 0, 0] (bodyOf Tryd.f39)), (subC [1, 0, 1, 1, 1, 0, 1, 0, 0, 1, 1, 0, 0, 1, 1, 1, 1, 1, 0, 1] (bodyOf Tryd.f39)), [(7, (V.ptr 3 0)), (8, (V.ptr 4 0)), (9, (V.ptr 5 0))], 10⟩), (Blk.cells [(V.yld 11)]), (Blk.cells [(vu z13x3)]), (Blk.cells [(vb true)]), Blk.dfr, (Blk.loop .busy none ⟨106, [11], (subC [1, 1, 0, 0] (bodyOf Tryd.f106)), (subC [1, 1, 0, 1] (bodyOf Tryd.f106)), [(1, (V.ptr 7 0)), (2, (V.ptr 9 0)), (3, (V.ptr 8 0)), (4, (V.ptr 12 0))], 15⟩), (Blk.row (.int .i64) z13x0 3 z13q0), (Blk.cells [(vi z13x9)]), (Blk.cells [(vu z13x2)]), (Blk.cells [(vb true)]), (Blk.loop .done (some .ret) ⟨106, [16], (subC [1, 1, 0, 1, 0, 1, 0, 0] (bodyOf Tryd.f106)), (subC [1, 1, 0, 1, 0, 1, 0, 1] (bodyOf Tryd.f106)), [(3, (V.ptr 8 0)), (4, (V.ptr 12 0)), (5, (V.ptr 18 0))], 15⟩), (Blk.row (.int .i64) z13x1 3 z13q1)], []⟩)) (rqn 4 (next ⟨[(0, (V.yld 21)), (2, (V.ptr 20 0)), (4, (V.row 22 1 (List.length z13x1) z13q1)), (9, (vi z13x10)), (10, (vi (wI (z13x11 + 1)))), (11, (vb (decide (z13x11 < z13x10)))), (5, (vi (wI ((wI ((((List.length z13x1) : Nat) : Int) - 1)) - z13x11)))), (13, (vb true)), (25, (vb false))], [(Blk.cells [(vu z13x2), (vu z13x3), (vu z13x4), (vu z13x5), (vu z13x6)]), (Blk.cells [(vi z13x7)]), (Blk.cells [(vu z13x2), (vu z13x3), (vu z13x4), (vu z13x5), (vu z13x6)]), (Blk.cells [(V.fn 42 [] [(V.ptr 1 0)])]), (Blk.cells [(vi 0)]), (Blk.cells [(vb false)]), (Blk.cells [(vu z13x2), (vu z13x3), (vu z13x4), (vu z13x5), (vu z13x6)]), (Blk.cells [(vu z13x2), (vu z13x3), (vu z13x4), (vu z13x5), (vu z13x6)]), (Blk.cells [(vi z13x8)]), (Blk.cells [(vb true)]), Blk.dfr, (Blk.loop .ready none ⟨39, [37], (subC [1, 0, 1, 1, 1, 0, 1, 0, 0, 1, 1, 0, 0, 1, 1, 1, 1, 1, 0, 0] (bodyOf Tryd.f39)), (subC [1, 0, 1, 1, 1, 0, 1, 0, 0, 1, 1, 0, 0, 1, 1, 1, 1, 1, 0, 1] (bodyOf Tryd.f39)), [(7, (V.ptr 3 0)), (8, (V.ptr 4 0)), (9, (V.ptr 5 0))], 10⟩), (Blk.cells [(V.yld 11)]), (Blk.cells [(vu z13x3)]), (Blk.cells [(vb true)]), Blk.dfr, (Blk.loop .busy none ⟨106, [11], (subC [1, 1, 0, 0] (bodyOf Tryd.f106)), (subC [1, 1, 0, 1] (bodyOf Tryd.f106)), [(1, (V.ptr 7 0)), (2, (V.ptr 9 0)), (3, (V.ptr 8 0)), (4, (V.ptr 12 0))], 15⟩), (Blk.row (.int .i64) z13x0 3 z13q0), (Blk.cells [(vi z13x9)]), (Blk.cells [(vu z13x2)]), (Blk.cells [(vb true)]), (Blk.loop .ready none ⟨106, [16], (subC [1, 1, 0, 1, 0, 1, 0, 0] (bodyOf Tryd.f106)), (subC [1, 1, 0, 1, 0, 1, 0, 1] (bodyOf Tryd.f106)), [(3, (V.ptr 8 0)), (4, (V.ptr 12 0)), (5, (V.ptr 18 0))], 15⟩), (Blk.row (.int .i64) z13x1 3 z13q1)], []⟩))))))) (wkK 23 K (.exit 0) ⟨[(0, (V.yld 21)), (2, (V.ptr 20 0)), (4, (V.row 22 1 (List.length z13x1) z13q1)), (9, (vi z13x10)), (10, (vi z13x11)), (11, (vb (decide (z13x11 < z13x10))))], [(Blk.cells [(vu z13x2), (vu z13x3), (vu z13x4), (vu z13x5), (vu z13x6)]), (Blk.cells [(vi z13x7)]), (Blk.cells [(vu z13x2), (vu z13x3), (vu z13x4), (vu z13x5), (vu z13x6)]), (Blk.cells [(V.fn 42 [] [(V.ptr 1 0)])]), (Blk.cells [(vi 0)]), (Blk.cells [(vb false)]), (Blk.cells [(vu z13x2), (vu z13x3), (vu z13x4), (vu z13x5), (vu z13x6)]), (Blk.cells [(vu z13x2), (vu z13x3), (vu z13x4), (vu z13x5), (vu z13x6)]), (Blk.cells [(vi z13x8)]), (Blk.cells [(vb true)]), Blk.dfr, (Blk.loop .ready none ⟨39, [37], (subC [1, 0, 1, 1, 1, 0, 1, 0, 0, 1, 1, 0, 0, 1, 1, 1, 1, 1, 0, 0] (bodyOf Tryd.f39)), (subC [1, 0, 1, 1, 1, 0, 1, 0, 0, 1, 1, 0, 0, 1, 1, 1, 1, 1, 0, 1] (bodyOf Tryd.f39)), [(7, (V.ptr 3 0)), (8, (V.ptr 4 0)), (9, (V.ptr 5 0))], 10⟩), (Blk.cells [(V.yld 11)]), (Blk.cells [(vu z13x3)]), (Blk.cells [(vb true)]), Blk.dfr, (Blk.loop .busy none ⟨106, [11], (subC [1, 1, 0, 0] (bodyOf Tryd.f106)), (subC [1, 1, 0, 1] (bodyOf Tryd.f106)), [(1, (V.ptr 7 0)), (2, (V.ptr 9 0)), (3, (V.ptr 8 0)), (4, (V.ptr 12 0))], 15⟩), (Blk.row (.int .i64) z13x0 3 z13q0), (Blk.cells [(vi z13x9)]), (Blk.cells [(vu z13x2)]), (Blk.cells [(vb true)]), (Blk.loop .ready none ⟨106, [16], (subC [1, 1, 0, 1, 0, 1, 0, 0] (bodyOf Tryd.f106)), (subC [1, 1, 0, 1, 0, 1, 0, 1] (bodyOf Tryd.f106)), [(3, (V.ptr 8 0)), (4, (V.ptr 12 0)), (5, (V.ptr 18 0))], 15⟩), (Blk.row (.int .i64) z13x1 3 z13q1)], []⟩))) := by kernel_rfl
theorem q18_0_ok (n : Nat) : Owed q18_cx okT 127 q18_lp (n + 3) q18_0_lp := loop_owed (fun z y h => h) fun k zz qq cc y14_ K h hK next hnext => by
  obtain ⟨z13x0, z13x1, z13x2, z13x3, z13x4, z13x5, z13x6, z13x7, z13x8, z13x9, z13x10, z13x11⟩ := zz
  obtain ⟨z13q0, z13q1⟩ := qq
  refine cast (q18_0_round n z13x0 z13x1 z13x2 z13x3 z13x4 z13x5 z13x6 z13x7 z13x8 z13x9 z13x10 z13x11 z13q0 z13q1 K next).symm ?_
  simp only [next_Last_l0] at h
  refine req_intro rfl ?_
  refine br_both h (fun hb h => ?_) (fun hb h => ?_)
  · refine rqn_intro 12 ?_
    obtain ⟨q, h⟩ := req_of h
    refine req_intro (band (band_l q) (band_r q)) ?_
    obtain ⟨q, h⟩ := req_of h
    refine req_intro q ?_
    refine rqn_intro 20 ?_
    refine br_both h (fun hb h => ?_) (fun hb h => ?_)
    · refine rqn_intro 3 ?_
      subst h
      refine ⟨_, ?_, hK⟩
      exact wk_of (Or.inr ⟨trivial, ⟨Or.inl rfl, Or.inl rfl, Or.inl rfl, Or.inl rfl, Or.inl rfl, Or.inl rfl, Or.inl rfl, Or.inl rfl, Or.inl rfl, Or.inl rfl, Or.inl rfl, Or.inl rfl, Or.inl rfl, Or.inl rfl, Or.inl rfl, Or.inl rfl, Or.inl rfl, Or.inl rfl, Or.inl rfl, Or.inl rfl, Or.inl rfl, Or.inl rfl, Or.inl rfl, trivial⟩, rfl, rfl, rfl⟩)
    · refine rqn_intro 4 ?_
      exact hnext (z13x0, z13x1, z13x2, z13x3, z13x4, z13x5, z13x6, z13x7, z13x8, z13x9, z13x10, (wI (z13x11 + 1))) _ h hK ⟨(), wk_of (Or.inr ⟨⟨Or.inl rfl, Or.inl rfl, Or.inl rfl, Or.inl rfl, Or.inl rfl, trivial⟩, ⟨Or.inl rfl, Or.inl rfl, Or.inl rfl, Or.inl rfl, Or.inl rfl, Or.inl rfl, Or.inl rfl, Or.inl rfl, Or.inl rfl, Or.inl rfl, Or.inl rfl, Or.inl rfl, Or.inl rfl, Or.inl rfl, Or.inl rfl, Or.inl rfl, Or.inl rfl, Or.inl rfl, Or.inl rfl, Or.inl rfl, Or.inl rfl, Or.inl rfl, Or.inl rfl, trivial⟩, rfl, rfl, rfl⟩)⟩
  · subst h
    refine ⟨_, ?_, hK⟩
    exact wk_of (Or.inr ⟨trivial, ⟨Or.inl rfl, Or.inl rfl, Or.inl rfl, Or.inl rfl, Or.inl rfl, Or.inl rfl, Or.inl rfl, Or.inl rfl, Or.inl rfl, Or.inl rfl, Or.inl rfl, Or.inl rfl, Or.inl rfl, Or.inl rfl, Or.inl rfl, Or.inl rfl, Or.inl rfl, Or.inl rfl, Or.inl rfl, Or.inl rfl, Or.inl rfl, Or.inl rfl, Or.inl rfl, trivial⟩, rfl, rfl, rfl⟩)
theorem q18_1_round (n : Nat) (z9x0 : List Int) (z9x1 : Int) (z9x2 : Int) (z9x3 : Int) (z9x4 : Int) (z9x5 : Int) (z9x6 : Int) (z9x7 : Int) (z9x8 : Int) (z9x9 : Int) (z9q0 : Nat) (K : Ret → S → Prop) (next : S → Prop) : acode q18_cx 127 (acall q18_cx okT q18_lp (n + 5)) (okT 127) (q18_lp (n + 5) 127) none q18_1_body (iterK (wkK 18 K) next) (q18_1_st (z9x0, z9x1, z9x2, z9x3, z9x4, z9x5, z9x6, z9x7, z9x8, z9x9) z9q0 ()) =
    (req true (br (decide (z9x9 < z9x8)) (rqn 12 (req ((decide (0 ≤ (wI ((wI ((((List.length z9x0) : Nat) : Int) - 1)) - z9x9)))) && (decide ((wI ((wI ((((List.length z9x0) : Nat) : Int) - 1)) - z9x9)) < (((List.length z9x0) : Nat) : Int)))) (req (Nat.blt (Int.toNat (wI ((wI ((((List.length z9x0) : Nat) : Int) - 1)) - z9x9))) (List.length z9x0)) (rqn 9 (∃ y11 : List Int, (mask_All_R z9x1 y11) ∧ (∀ c12 : Nat, (rqn 4 (((none : Option Nat) = (none : Option Nat)) ∧ (q18_0_body = q18_0_body) ∧ ∃ z15 : next_Last_l0_Z, ∃ z15q : q18_0_Q, ∃ y16 : next_Last_l0_Y, (23 = 23) ∧ (∃ zc : q18_0_C, wk 23 ⟨[(0, (V.yld 21)), (1, (V.ptr 19 0)), (2, (V.ptr 20 0)), (4, (V.row 22 1 (List.length y11) c12)), (9, (vi (((List.length y11) : Nat) : Int))), (10, (vi 0))], [(Blk.cells [(vu z9x1), (vu z9x2), (vu z9x3), (vu z9x4), (vu z9x5)]), (Blk.cells [(vi z9x6)]), (Blk.cells [(vu z9x1), (vu z9x2), (vu z9x3), (vu z9x4), (vu z9x5)]), (Blk.cells [(V.fn 42 [] [(V.ptr 1 0)])]), (Blk.cells [(vi 0)]), (Blk.cells [(vb false)]), (Blk.cells [(vu z9x1), (vu z9x2), (vu z9x3), (vu z9x4), (vu z9x5)]), (Blk.cells [(vu z9x1), (vu z9x2), (vu z9x3), (vu z9x4), (vu z9x5)]), (Blk.cells [(vi z9x7)]), (Blk.cells [(vb true)]), Blk.dfr, (Blk.loop .ready none ⟨39, [37], (subC [1, 0, 1, 1, 1, 0, 1, 0, 0, 1, 1, 0, 0, 1, 1, 1, 1, 1, 0, 0] (bodyOf Tryd.f39)), (subC [1, 0, 1, 1, 1, 0, 1, 0, 0, 1, 1, 0, 0, 1, 1, 1, 1, 1, 0, 1] (bodyOf Tryd.f39)), [(7, (V.ptr 3 0)), (8, (V.ptr 4 0)), (9, (V.ptr 5 0))], 10⟩), (Blk.cells [(V.yld 11)]), (Blk.cells [(vu z9x2)]), (Blk.cells [(vb true)]), Blk.dfr, (Blk.loop .busy none ⟨106, [11], (subC [1, 1, 0, 0] (bodyOf Tryd.f106)), (subC [1, 1, 0, 1] (bodyOf Tryd.f106)), [(1, (V.ptr 7 0)), (2, (V.ptr 9 0)), (3, (V.ptr 8 0)), (4, (V.ptr 12 0))], 15⟩), (Blk.row (.int .i64) z9x0 3 z9q0), (Blk.cells [(vi (List.getD z9x0 (Int.toNat (wI ((wI ((((List.length z9x0) : Nat) : Int) - 1)) - z9x9))) 0))]), (Blk.cells [(vu z9x1)]), (Blk.cells [(vb true)]), (Blk.loop .ready none ⟨106, [16], (subC [1, 1, 0, 1, 0, 1, 0, 0] (bodyOf Tryd.f106)), (subC [1, 1, 0, 1, 0, 1, 0, 1] (bodyOf Tryd.f106)), [(1, (V.ptr 7 0)), (2, (V.ptr 9 0)), (3, (V.ptr 8 0)), (4, (V.ptr 12 0)), (11, (vi (List.getD z9x0 (Int.toNat (wI ((wI ((((List.length z9x0) : Nat) : Int) - 1)) - z9x9))) 0))), (5, (V.ptr 18 0)), (15, (V.fn 127 [] [(V.ptr 19 0), (V.ptr 20 0)]))], 15⟩), (Blk.row (.int .i64) y11 3 c12)], []⟩ (q18_0_st z15 z15q zc)) ∧ (∃ k, next_Last_l0 k z15 y16) ∧ sume (fun y16 => (req true (wkK 18 K .ret ⟨[(0, (V.yld 16)), (2, (V.ptr 14 0)), (4, (V.row 17 1 (List.length z9x0) z9q0)), (9, (vi z9x8)), (10, (vi z9x9)), (11, (vb (decide (z9x9 < z9x8)))), (5, (vi (wI ((wI ((((List.length z9x0) : Nat) : Int) - 1)) - z9x9)))), (13, (vb true)), (25, (vb true))], [(Blk.cells [(vu (z15.2.2.1)), (vu (z15.2.2.2.1)), (vu (z15.2.2.2.2.1)), (vu (z15.2.2.2.2.2.1)), (vu (z15.2.2.2.2.2.2.1))]), (Blk.cells [(vi (z15.2.2.2.2.2.2.2.1))]), (Blk.cells [(vu (z15.2.2.1)), (vu (z15.2.2.2.1)), (vu (z15.2.2.2.2.1)), (vu (z15.2.2.2.2.2.1)), (vu (z15.2.2.2.2.2.2.1))]), (Blk.cells [(V.fn 42 [] [(V.ptr 1 0)])]), (Blk.cells [(vi y16)]), (Blk.cells [(vb true)]), (Blk.cells [(vu (z15.2.2.1)), (vu (z15.2.2.2.1)), (vu (z15.2.2.2.2.1)), (vu (z15.2.2.2.2.2.1)), (vu (z15.2.2.2.2.2.2.1))]), (Blk.cells [(vu (z15.2.2.1)), (vu (z15.2.2.2.1)), (vu (z15.2.2.2.2.1)), (vu (z15.2.2.2.2.2.1)), (vu (z15.2.2.2.2.2.2.1))]), (Blk.cells [(vi (z15.2.2.2.2.2.2.2.2.1))]), (Blk.cells [(vb true)]), Blk.dfr, (Blk.loop .done (some (.exit 0)) ⟨39, [37], (subC [1, 0, 1, 1, 1, 0, 1, 0, 0, 1, 1, 0, 0, 1, 1, 1, 1, 1, 0, 0] (bodyOf Tryd.f39)), (subC [1, 0, 1, 1, 1, 0, 1, 0, 0, 1, 1, 0, 0, 1, 1, 1, 1, 1, 0, 1] (bodyOf Tryd.f39)), [(7, (V.ptr 3 0)), (8, (V.ptr 4 0)), (9, (V.ptr 5 0))], 10⟩), (Blk.cells [(V.yld 11)]), (Blk.cells [(vu (z15.2.2.2.1))]), (Blk.cells [(vb true)]), Blk.dfr, (Blk.loop .done (some .ret) ⟨106, [11], (subC [1, 1, 0, 0] (bodyOf Tryd.f106)), (subC [1, 1, 0, 1] (bodyOf Tryd.f106)), [(1, (V.ptr 7 0)), (2, (V.ptr 9 0)), (3, (V.ptr 8 0)), (4, (V.ptr 12 0))], 15⟩), (Blk.row (.int .i64) (z15.1) 3 (z15q.1))], []⟩))) (fun y16 => (rqn 3 (next ⟨[(0, (V.yld 16)), (2, (V.ptr 14 0)), (4, (V.row 17 1 (List.length z9x0) z9q0)), (9, (vi z9x8)), (10, (vi (wI (z9x9 + 1)))), (11, (vb (decide (z9x9 < z9x8)))), (5, (vi (wI ((wI ((((List.length z9x0) : Nat) : Int) - 1)) - z9x9)))), (13, (vb true)), (25, (vb false))], [(Blk.cells [(vu (z15.2.2.1)), (vu (z15.2.2.2.1)), (vu (z15.2.2.2.2.1)), (vu (z15.2.2.2.2.2.1)), (vu (z15.2.2.2.2.2.2.1))]), (Blk.cells [(vi (z15.2.2.2.2.2.2.2.1))]), (Blk.cells [(vu (z15.2.2.1)), (vu (z15.2.2.2.1)), (vu (z15.2.2.2.2.1)), (vu (z15.2.2.2.2.2.1)), (vu (z15.2.2.2.2.2.2.1))]), (Blk.cells [(V.fn 42 [] [(V.ptr 1 0)])]), (Blk.cells [(vi 0)]), (Blk.cells [(vb false)]), (Blk.cells [(vu (z15.2.2.1)), (vu (z15.2.2.2.1)), (vu (z15.2.2.2.2.1)), (vu (z15.2.2.2.2.2.1)), (vu (z15.2.2.2.2.2.2.1))]), (Blk.cells [(vu (z15.2.2.1)), (vu (z15.2.2.2.1)), (vu (z15.2.2.2.2.1)), (vu (z15.2.2.2.2.2.1)), (vu (z15.2.2.2.2.2.2.1))]), (Blk.cells [(vi (z15.2.2.2.2.2.2.2.2.1))]), (Blk.cells [(vb true)]), Blk.dfr, (Blk.loop .ready none ⟨39, [37], (subC [1, 0, 1, 1, 1, 0, 1, 0, 0, 1, 1, 0, 0, 1, 1, 1, 1, 1, 0, 0] (bodyOf Tryd.f39)), (subC [1, 0, 1, 1, 1, 0, 1, 0, 0, 1, 1, 0, 0, 1, 1, 1, 1, 1, 0, 1] (bodyOf Tryd.f39)), [(7, (V.ptr 3 0)), (8, (V.ptr 4 0)), (9, (V.ptr 5 0))], 10⟩), (Blk.cells [(V.yld 11)]), (Blk.cells [(vu (z15.2.2.2.1))]), (Blk.cells [(vb true)]), Blk.dfr, (Blk.loop .ready none ⟨106, [11], (subC [1, 1, 0, 0] (bodyOf Tryd.f106)), (subC [1, 1, 0, 1] (bodyOf Tryd.f106)), [(1, (V.ptr 7 0)), (2, (V.ptr 9 0)), (3, (V.ptr 8 0)), (4, (V.ptr 12 0))], 15⟩), (Blk.row (.int .i64) (z15.1) 3 (z15q.1))], []⟩))) y16)))))))) (wkK 18 K (.exit 0) ⟨[(0, (V.yld 16)), (2, (V.ptr 14 0)), (4, (V.row 17 1 (List.length z9x0) z9q0)), (9, (vi z9x8)), (10, (vi z9x9)), (11, (vb (decide (z9x9 < z9x8))))], [(Blk.cells [(vu z9x1), (vu z9x2), (vu z9x3), (vu z9x4), (vu z9x5)]), (Blk.cells [(vi z9x6)]), (Blk.cells [(vu z9x1), (vu z9x2), (vu z9x3), (vu z9x4), (vu z9x5)]), (Blk.cells [(V.fn 42 [] [(V.ptr 1 0)])]), (Blk.cells [(vi 0)]), (Blk.cells [(vb false)]), (Blk.cells [(vu z9x1), (vu z9x2), (vu z9x3), (vu z9x4), (vu z9x5)]), (Blk.cells [(vu z9x1), (vu z9x2), (vu z9x3), (vu z9x4), (vu z9x5)]), (Blk.cells [(vi z9x7)]), (Blk.cells [(vb true)]), Blk.dfr, (Blk.loop .ready none ⟨39, [37], (subC [1, 0, 1, 1, 1, 0, 1, 0, 0, 1, 1, 0, 0, 1, 1, 1, 1, 1, 0, 0] (bodyOf Tryd.f39)), (subC [1, 0, 1, 1, 1, 0, 1, 0, 0, 1, 1, 0, 0, 1, 1, 1, 1, 1, 0, 1] (bodyOf Tryd.f39)), [(7, (V.ptr 3 0)), (8, (V.ptr 4 0)), (9, (V.ptr 5 0))], 10⟩), (Blk.cells [(V.yld 11)]), (Blk.cells [(vu z9x2)]), (Blk.cells [(vb true)]), Blk.dfr, (Blk.loop .ready none ⟨106, [11], (subC [1, 1, 0, 0] (bodyOf Tryd.f106)), (subC [1, 1, 0, 1] (bodyOf Tryd.f106)), [(1, (V.ptr 7 0)), (2, (V.ptr 9 0)), (3, (V.ptr 8 0)), (4, (V.ptr 12 0))], 15⟩), (Blk.row (.int .i64) z9x0 3 z9q0)], []⟩))) := by kernel_rfl
theorem q18_1_ok (n : Nat) : Owed q18_cx okT 127 q18_lp (n + 5) q18_1_lp := loop_owed (fun z y h => h) fun k zz z9q0 cc y10_ K h hK next hnext => by
  obtain ⟨z9x0, z9x1, z9x2, z9x3, z9x4, z9x5, z9x6, z9x7, z9x8, z9x9⟩ := zz
  refine cast (q18_1_round n z9x0 z9x1 z9x2 z9x3 z9x4 z9x5 z9x6 z9x7 z9x8 z9x9 z9q0 K next).symm ?_
  simp only [next_Last_l1] at h
  refine req_intro rfl ?_
  refine br_both h (fun hb h => ?_) (fun hb h => ?_)
  · refine rqn_intro 12 ?_
    obtain ⟨q, h⟩ := req_of h
    refine req_intro (band (band_l q) (band_r q)) ?_
    obtain ⟨q, h⟩ := req_of h
    refine req_intro q ?_
    refine rqn_intro 9 ?_
    refine ex_both h fun y11 h => ?_
    intro c12
    refine rqn_intro 4 ?_
    obtain ⟨y16, ry16, h⟩ := h
    refine ⟨rfl, rfl, (z9x0, y11, z9x1, z9x2, z9x3, z9x4, z9x5, z9x6, z9x7, (List.getD z9x0 (Int.toNat (wI ((wI ((((List.length z9x0) : Nat) : Int) - 1)) - z9x9))) 0), (((List.length y11) : Nat) : Int), 0), (z9q0, c12), y16, rfl, ⟨(), wk_of (Or.inr ⟨⟨Or.inl rfl, Or.inl rfl, Or.inl rfl, Or.inl rfl, Or.inl rfl, trivial⟩, ⟨Or.inl rfl, Or.inl rfl, Or.inl rfl, Or.inl rfl, Or.inl rfl, Or.inl rfl, Or.inl rfl, Or.inl rfl, Or.inl rfl, Or.inl rfl, Or.inl rfl, Or.inl rfl, Or.inl rfl, Or.inl rfl, Or.inl rfl, Or.inl rfl, Or.inl rfl, Or.inl rfl, Or.inl rfl, Or.inl rfl, Or.inl rfl, Or.inr (Or.inr (Or.inr ⟨rfl, rfl, rfl, rfl, rfl, rfl, rfl, ⟨Or.inl rfl, Or.inl rfl, Or.inl rfl, trivial⟩⟩)), Or.inl rfl, trivial⟩, rfl, rfl, rfl⟩)⟩, ry16, ?_⟩
    refine sume_both h (fun y16 h => ?_) (fun y16 h => ?_)
    · refine req_intro rfl ?_
      subst h
      refine ⟨_, ?_, hK⟩
      exact wk_of (Or.inr ⟨trivial, ⟨Or.inl rfl, Or.inl rfl, Or.inl rfl, Or.inl rfl, Or.inl rfl, Or.inl rfl, Or.inl rfl, Or.inl rfl, Or.inl rfl, Or.inl rfl, Or.inl rfl, Or.inl rfl, Or.inl rfl, Or.inl rfl, Or.inl rfl, Or.inl rfl, Or.inl rfl, Or.inl rfl, trivial⟩, rfl, rfl, rfl⟩)
    · refine rqn_intro 3 ?_
      exact hnext (z9x0, z9x1, z9x2, z9x3, z9x4, z9x5, z9x6, z9x7, z9x8, (wI (z9x9 + 1))) _ h hK ⟨(), wk_of (Or.inr ⟨⟨Or.inl rfl, Or.inl rfl, Or.inl rfl, Or.inl rfl, Or.inl rfl, trivial⟩, ⟨Or.inl rfl, Or.inl rfl, Or.inl rfl, Or.inl rfl, Or.inl rfl, Or.inl rfl, Or.inl rfl, Or.inl rfl, Or.inl rfl, Or.inl rfl, Or.inl rfl, Or.inl rfl, Or.inl rfl, Or.inl rfl, Or.inl rfl, Or.inl rfl, Or.inl rfl, Or.inl rfl, trivial⟩, rfl, rfl, rfl⟩)⟩
  · subst h
    refine ⟨_, ?_, hK⟩
    exact wk_of (Or.inr ⟨trivial, ⟨Or.inl rfl, Or.inl rfl, Or.inl rfl, Or.inl rfl, Or.inl rfl, Or.inl rfl, Or.inl rfl, Or.inl rfl, Or.inl rfl, Or.inl rfl, Or.inl rfl, Or.inl rfl, Or.inl rfl, Or.inl rfl, Or.inl rfl, Or.inl rfl, Or.inl rfl, Or.inl rfl, trivial⟩, rfl, rfl, rfl⟩)
theorem q18_2_round (n : Nat) (z3x0 : Int) (z3x1 : Int) (z3x2 : Int) (z3x3 : Int) (z3x4 : Int) (z3x5 : Int) (z3x6 : Int) (z3x7 : Int) (K : Ret → S → Prop) (next : S → Prop) : acode q18_cx 39 (acall q18_cx okT q18_lp (n + 7)) (okT 39) (q18_lp (n + 7) 39) none q18_2_body (iterK (wkK 7 K) next) (q18_2_st (z3x0, z3x1, z3x2, z3x3, z3x4, z3x5, z3x6, z3x7) () ()) =
    (req true (br (decide (z3x7 < 2923)) (rqn 16 (∃ y5 : (Int × Int × Int) × Int, (days_At_R (wI (z3x6 - z3x7)) y5) ∧ (rqn 7 (br ((y5.2) == 0) (rqn 3 (∃ y6 : Bool, (cron_Day_R z3x0 z3x1 z3x2 z3x3 z3x4 ((y5.1).1) (((y5.1).2).1) (((y5.1).2).2) y6) ∧ (rqn 3 (br (!y6) (rqn 2 (next ⟨[(1, (vi z3x6)), (2, (vb true)), (4, (V.ptr 2 0)), (7, (V.ptr 3 0)), (8, (V.ptr 4 0)), (9, (V.ptr 5 0)), (10, (V.fn 105 [] [(V.ptr 6 0)])), (19, (vi (wI (z3x7 + 1)))), (20, (vb (decide (z3x7 < 2923)))), (11, (vi z3x7)), (12, (vi (wI (z3x6 - z3x7)))), (25, (vb true)), (32, (vb (!y6)))], [(Blk.cells [(vu z3x0), (vu z3x1), (vu z3x2), (vu z3x3), (vu z3x4)]), (Blk.cells [(vi z3x5)]), (Blk.cells [(vu z3x0), (vu z3x1), (vu z3x2), (vu z3x3), (vu z3x4)]), (Blk.cells [(V.fn 42 [] [(V.ptr 1 0)])]), (Blk.cells [(vi 0)]), (Blk.cells [(vb false)]), (Blk.cells [(vu z3x0), (vu z3x1), (vu z3x2), (vu z3x3), (vu z3x4)])], []⟩)) (rqn 14 (∃ y7 : List Int, (mask_All_R z3x1 y7) ∧ (∀ c8 : Nat, (rqn 4 (((none : Option Nat) = (none : Option Nat)) ∧ (q18_1_body = q18_1_body) ∧ ∃ z17 : next_Last_l1_Z, ∃ z17q : q18_1_Q, ∃ y18 : next_Last_l1_Y, (18 = 18) ∧ (∃ zc : q18_1_C, wk 18 ⟨[(0, (V.yld 16)), (1, (V.ptr 13 0)), (2, (V.ptr 14 0)), (4, (V.row 17 1 (List.length y7) c8)), (9, (vi (((List.length y7) : Nat) : Int))), (10, (vi 0))], [(Blk.cells [(vu z3x0), (vu z3x1), (vu z3x2), (vu z3x3), (vu z3x4)]), (Blk.cells [(vi z3x5)]), (Blk.cells [(vu z3x0), (vu z3x1), (vu z3x2), (vu z3x3), (vu z3x4)]), (Blk.cells [(V.fn 42 [] [(V.ptr 1 0)])]), (Blk.cells [(vi 0)]), (Blk.cells [(vb false)]), (Blk.cells [(vu z3x0), (vu z3x1), (vu z3x2), (vu z3x3), (vu z3x4)]), (Blk.cells [(vu z3x0), (vu z3x1), (vu z3x2), (vu z3x3), (vu z3x4)]), (Blk.cells [(vi (wI (z3x6 - z3x7)))]), (Blk.cells [(vb true)]), Blk.dfr, (Blk.loop .ready none ⟨39, [37], (subC [1, 0, 1, 1, 1, 0, 1, 0, 0, 1, 1, 0, 0, 1, 1, 1, 1, 1, 0, 0] (bodyOf Tryd.f39)), (subC [1, 0, 1, 1, 1, 0, 1, 0, 0, 1, 1, 0, 0, 1, 1, 1, 1, 1, 0, 1] (bodyOf Tryd.f39)), [(1, (vi z3x6)), (2, (vb true)), (4, (V.ptr 2 0)), (7, (V.ptr 3 0)), (8, (V.ptr 4 0)), (9, (V.ptr 5 0)), (10, (V.fn 105 [] [(V.ptr 6 0)])), (19, (vi z3x7)), (20, (vb (decide (z3x7 < 2923)))), (11, (vi z3x7)), (12, (vi (wI (z3x6 - z3x7)))), (25, (vb true)), (32, (vb (!y6))), (36, (V.fn 106 [] [(V.ptr 7 0), (V.ptr 9 0), (V.ptr 8 0)]))], 10⟩), (Blk.cells [(V.yld 11)]), (Blk.cells [(vu z3x1)]), (Blk.cells [(vb true)]), Blk.dfr, (Blk.loop .ready none ⟨106, [11], (subC [1, 1, 0, 0] (bodyOf Tryd.f106)), (subC [1, 1, 0, 1] (bodyOf Tryd.f106)), [(0, (V.yld 11)), (1, (V.ptr 7 0)), (2, (V.ptr 9 0)), (3, (V.ptr 8 0)), (4, (V.ptr 12 0)), (10, (V.fn 127 [] [(V.ptr 13 0), (V.ptr 14 0)]))], 15⟩), (Blk.row (.int .i64) y7 3 c8)], []⟩ (q18_1_st z17 z17q zc)) ∧ (∃ k, next_Last_l1 k z17 y18) ∧ sume (fun y18 => (wkK 7 K (.exit 0) ⟨[(1, (vi z3x6)), (2, (vb true)), (4, (V.ptr 2 0)), (7, (V.ptr 3 0)), (8, (V.ptr 4 0)), (9, (V.ptr 5 0)), (10, (V.fn 105 [] [(V.ptr 6 0)])), (19, (vi z3x7)), (20, (vb (decide (z3x7 < 2923)))), (11, (vi z3x7)), (12, (vi (wI (z3x6 - z3x7)))), (25, (vb true)), (32, (vb (!y6))), (36, (V.fn 106 [] [(V.ptr 7 0), (V.ptr 9 0), (V.ptr 8 0)]))], [(Blk.cells [(vu (z17.2.1)), (vu (z17.2.2.1)), (vu (z17.2.2.2.1)), (vu (z17.2.2.2.2.1)), (vu (z17.2.2.2.2.2.1))]), (Blk.cells [(vi (z17.2.2.2.2.2.2.1))]), (Blk.cells [(vu (z17.2.1)), (vu (z17.2.2.1)), (vu (z17.2.2.2.1)), (vu (z17.2.2.2.2.1)), (vu (z17.2.2.2.2.2.1))]), (Blk.cells [(V.fn 42 [] [(V.ptr 1 0)])]), (Blk.cells [(vi y18)]), (Blk.cells [(vb true)]), (Blk.cells [(vu (z17.2.1)), (vu (z17.2.2.1)), (vu (z17.2.2.2.1)), (vu (z17.2.2.2.2.1)), (vu (z17.2.2.2.2.2.1))]), (Blk.cells [(vu (z17.2.1)), (vu (z17.2.2.1)), (vu (z17.2.2.2.1)), (vu (z17.2.2.2.2.1)), (vu (z17.2.2.2.2.2.1))]), (Blk.cells [(vi (z17.2.2.2.2.2.2.2.1))]), (Blk.cells [(vb true)]), Blk.dfr, Blk.dead], [10]⟩)) (fun y18 => (rqn 2 (next ⟨[(1, (vi z3x6)), (2, (vb true)), (4, (V.ptr 2 0)), (7, (V.ptr 3 0)), (8, (V.ptr 4 0)), (9, (V.ptr 5 0)), (10, (V.fn 105 [] [(V.ptr 6 0)])), (19, (vi (wI (z3x7 + 1)))), (20, (vb (decide (z3x7 < 2923)))), (11, (vi z3x7)), (12, (vi (wI (z3x6 - z3x7)))), (25, (vb true)), (32, (vb (!y6))), (36, (V.fn 106 [] [(V.ptr 7 0), (V.ptr 9 0), (V.ptr 8 0)]))], [(Blk.cells [(vu (z17.2.1)), (vu (z17.2.2.1)), (vu (z17.2.2.2.1)), (vu (z17.2.2.2.2.1)), (vu (z17.2.2.2.2.2.1))]), (Blk.cells [(vi (z17.2.2.2.2.2.2.1))]), (Blk.cells [(vu (z17.2.1)), (vu (z17.2.2.1)), (vu (z17.2.2.2.1)), (vu (z17.2.2.2.2.1)), (vu (z17.2.2.2.2.2.1))]), (Blk.cells [(V.fn 42 [] [(V.ptr 1 0)])]), (Blk.cells [(vi 0)]), (Blk.cells [(vb false)]), (Blk.cells [(vu (z17.2.1)), (vu (z17.2.2.1)), (vu (z17.2.2.2.1)), (vu (z17.2.2.2.2.1)), (vu (z17.2.2.2.2.2.1))]), (Blk.cells [(vu (z17.2.1)), (vu (z17.2.2.1)), (vu (z17.2.2.2.1)), (vu (z17.2.2.2.2.1)), (vu (z17.2.2.2.2.2.1))]), (Blk.cells [(vi (z17.2.2.2.2.2.2.2.1))]), (Blk.cells [(vb true)]), Blk.dfr, Blk.dead], [10]⟩))) y18))))))))) (rqn 5 (next ⟨[(1, (vi z3x6)), (2, (vb true)), (4, (V.ptr 2 0)), (7, (V.ptr 3 0)), (8, (V.ptr 4 0)), (9, (V.ptr 5 0)), (10, (V.fn 105 [] [(V.ptr 6 0)])), (19, (vi (wI (z3x7 + 1)))), (20, (vb (decide (z3x7 < 2923)))), (11, (vi z3x7)), (12, (vi (wI (z3x6 - z3x7)))), (25, (vb true)), (32, (vb true))], [(Blk.cells [(vu z3x0), (vu z3x1), (vu z3x2), (vu z3x3), (vu z3x4)]), (Blk.cells [(vi z3x5)]), (Blk.cells [(vu z3x0), (vu z3x1), (vu z3x2), (vu z3x3), (vu z3x4)]), (Blk.cells [(V.fn 42 [] [(V.ptr 1 0)])]), (Blk.cells [(vi 0)]), (Blk.cells [(vb false)]), (Blk.cells [(vu z3x0), (vu z3x1), (vu z3x2), (vu z3x3), (vu z3x4)])], []⟩)))))) (wkK 7 K (.exit 0) ⟨[(1, (vi z3x6)), (2, (vb true)), (4, (V.ptr 2 0)), (7, (V.ptr 3 0)), (8, (V.ptr 4 0)), (9, (V.ptr 5 0)), (10, (V.fn 105 [] [(V.ptr 6 0)])), (19, (vi z3x7)), (20, (vb (decide (z3x7 < 2923))))], [(Blk.cells [(vu z3x0), (vu z3x1), (vu z3x2), (vu z3x3), (vu z3x4)]), (Blk.cells [(vi z3x5)]), (Blk.cells [(vu z3x0), (vu z3x1), (vu z3x2), (vu z3x3), (vu z3x4)]), (Blk.cells [(V.fn 42 [] [(V.ptr 1 0)])]), (Blk.cells [(vi 0)]), (Blk.cells [(vb false)]), (Blk.cells [(vu z3x0), (vu z3x1), (vu z3x2), (vu z3x3), (vu z3x4)])], []⟩))) := by kernel_rfl
theorem q18_2_ok (n : Nat) : Owed q18_cx okT 39 q18_lp (n + 7) q18_2_lp := loop_owed (fun z y h => h) fun k zz qq cc y4_ K h hK next hnext => by
  obtain ⟨z3x0, z3x1, z3x2, z3x3, z3x4, z3x5, z3x6, z3x7⟩ := zz
  refine cast (q18_2_round n z3x0 z3x1 z3x2 z3x3 z3x4 z3x5 z3x6 z3x7 K next).symm ?_
  simp only [next_Last_l2] at h
  refine req_intro rfl ?_
  refine br_both h (fun hb h => ?_) (fun hb h => ?_)
  · refine rqn_intro 16 ?_
    refine ex_both h fun y5 h => ?_
    refine rqn_intro 7 ?_
    refine br_both h (fun hb h => ?_) (fun hb h => ?_)
    · refine rqn_intro 3 ?_
      refine ex_both h fun y6 h => ?_
      refine rqn_intro 3 ?_
      refine br_both h (fun hb h => ?_) (fun hb h => ?_)
      · refine rqn_intro 2 ?_
        exact hnext (z3x0, z3x1, z3x2, z3x3, z3x4, z3x5, z3x6, (wI (z3x7 + 1))) _ h hK ⟨(), wk_of (Or.inr ⟨⟨Or.inl rfl, Or.inl rfl, Or.inl rfl, Or.inl rfl, Or.inl rfl, Or.inl rfl, Or.inl rfl, Or.inl rfl, trivial⟩, ⟨Or.inl rfl, Or.inl rfl, Or.inl rfl, Or.inl rfl, Or.inl rfl, Or.inl rfl, Or.inl rfl, trivial⟩, rfl, rfl, rfl⟩)⟩
      · refine rqn_intro 14 ?_
        refine ex_both h fun y7 h => ?_
        intro c8
        refine rqn_intro 4 ?_
        obtain ⟨y18, ry18, h⟩ := h
        refine ⟨rfl, rfl, (y7, z3x0, z3x1, z3x2, z3x3, z3x4, z3x5, (wI (z3x6 - z3x7)), (((List.length y7) : Nat) : Int), 0), c8, y18, rfl, ⟨(), wk_of (Or.inr ⟨⟨Or.inl rfl, Or.inl rfl, Or.inl rfl, Or.inl rfl, Or.inl rfl, trivial⟩, ⟨Or.inl rfl, Or.inl rfl, Or.inl rfl, Or.inl rfl, Or.inl rfl, Or.inl rfl, Or.inl rfl, Or.inl rfl, Or.inl rfl, Or.inl rfl, Or.inl rfl, Or.inr (Or.inr (Or.inr ⟨rfl, rfl, rfl, rfl, rfl, rfl, rfl, ⟨Or.inl rfl, Or.inl rfl, Or.inl rfl, trivial⟩⟩)), Or.inl rfl, Or.inl rfl, Or.inl rfl, Or.inl rfl, Or.inr (Or.inr (Or.inr ⟨rfl, rfl, rfl, rfl, rfl, rfl, rfl, ⟨Or.inl rfl, Or.inl rfl, Or.inl rfl, Or.inl rfl, trivial⟩⟩)), Or.inl rfl, trivial⟩, rfl, rfl, rfl⟩)⟩, ry18, ?_⟩
        refine sume_both h (fun y18 h => ?_) (fun y18 h => ?_)
        · subst h
          refine ⟨_, ?_, hK⟩
          exact ⟨_, ⟨[(8, (V.ptr 4 0)), (9, (V.ptr 5 0))], [(Blk.cells [(vu z3x0), (vu z3x1), (vu z3x2), (vu z3x3), (vu z3x4)]), (Blk.cells [(vi z3x5)]), (Blk.cells [(vu z3x0), (vu z3x1), (vu z3x2), (vu z3x3), (vu z3x4)]), (Blk.cells [(V.fn 42 [] [(V.ptr 1 0)])]), (Blk.cells [(vi y18)]), (Blk.cells [(vb true)]), (Blk.cells [(vu z3x0), (vu z3x1), (vu z3x2), (vu z3x3), (vu z3x4)]), Blk.dead, Blk.dead, Blk.dead, Blk.dead, Blk.dead], []⟩, ⟨[10], rfl, rfl⟩, Or.inr ⟨[0, 1, 2, 3, 4, 5, 6, 0, 0, 0, 0, 0], rfl, rfl, rfl, rfl, rfl, ⟨rfl, rfl, trivial⟩, ⟨Or.inr rfl, Or.inr rfl, Or.inr rfl, Or.inr rfl, Or.inr rfl, Or.inr rfl, Or.inr rfl, Or.inl rfl, Or.inl rfl, Or.inl rfl, Or.inl rfl, Or.inl rfl, trivial⟩, rfl, rfl⟩, Or.inr ⟨⟨Or.inl rfl, Or.inl rfl, trivial⟩, ⟨Or.inl rfl, Or.inl rfl, Or.inl rfl, Or.inl rfl, Or.inl rfl, Or.inl rfl, Or.inl rfl, Or.inl rfl, Or.inl rfl, Or.inl rfl, Or.inl rfl, Or.inl rfl, trivial⟩, rfl, rfl, rfl⟩⟩
        · refine rqn_intro 2 ?_
          exact hnext (z3x0, z3x1, z3x2, z3x3, z3x4, z3x5, z3x6, (wI (z3x7 + 1))) _ h hK ⟨(), ⟨_, _, ⟨[10], rfl, rfl⟩, Or.inl rfl, Or.inr ⟨⟨Or.inl rfl, Or.inl rfl, Or.inl rfl, Or.inl rfl, Or.inl rfl, Or.inl rfl, Or.inl rfl, Or.inl rfl, trivial⟩, ⟨Or.inl rfl, Or.inl rfl, Or.inl rfl, Or.inl rfl, Or.inl rfl, Or.inl rfl, Or.inl rfl, trivial⟩, rfl, rfl, rfl⟩⟩⟩
    · refine rqn_intro 5 ?_
      exact hnext (z3x0, z3x1, z3x2, z3x3, z3x4, z3x5, z3x6, (wI (z3x7 + 1))) _ h hK ⟨(), wk_of (Or.inr ⟨⟨Or.inl rfl, Or.inl rfl, Or.inl rfl, Or.inl rfl, Or.inl rfl, Or.inl rfl, Or.inl rfl, Or.inl rfl, trivial⟩, ⟨Or.inl rfl, Or.inl rfl, Or.inl rfl, Or.inl rfl, Or.inl rfl, Or.inl rfl, Or.inl rfl, trivial⟩, rfl, rfl, rfl⟩)⟩
  · subst h
    refine ⟨_, ?_, hK⟩
    exact ⟨_, ⟨[(8, (V.ptr 4 0)), (9, (V.ptr 5 0))], [(Blk.cells [(vu z3x0), (vu z3x1), (vu z3x2), (vu z3x3), (vu z3x4)]), (Blk.cells [(vi z3x5)]), (Blk.cells [(vu z3x0), (vu z3x1), (vu z3x2), (vu z3x3), (vu z3x4)]), (Blk.cells [(V.fn 42 [] [(V.ptr 1 0)])]), (Blk.cells [(vi 0)]), (Blk.cells [(vb false)]), (Blk.cells [(vu z3x0), (vu z3x1), (vu z3x2), (vu z3x3), (vu z3x4)]), Blk.dead, Blk.dead, Blk.dead, Blk.dead, Blk.dead], []⟩, ⟨[], rfl, rfl⟩, Or.inr ⟨[0, 1, 2, 3, 4, 5, 6, 0, 0, 0, 0, 0], rfl, rfl, rfl, rfl, rfl, ⟨rfl, rfl, trivial⟩, ⟨Or.inr rfl, Or.inr rfl, Or.inr rfl, Or.inr rfl, Or.inr rfl, Or.inr rfl, Or.inr rfl, Or.inl rfl, Or.inl rfl, Or.inl rfl, Or.inl rfl, Or.inl rfl, trivial⟩, rfl, rfl⟩, Or.inr ⟨⟨Or.inl rfl, Or.inl rfl, trivial⟩, ⟨Or.inl rfl, Or.inl rfl, Or.inl rfl, Or.inl rfl, Or.inl rfl, Or.inl rfl, Or.inl rfl, Or.inl rfl, Or.inl rfl, Or.inl rfl, Or.inl rfl, Or.inl rfl, trivial⟩, rfl, rfl, rfl⟩⟩
theorem q18_lpok : LpOk q18_cx okT q18_lp := LpOk_tab ⟨q18_0_ok, q18_1_ok, q18_2_ok, trivial⟩
def next_Last_R (a0 : Int) (a1 : Int) (a2 : Int) (a3 : Int) (a4 : Int) (a5 : Int) (y : Int × Bool) : Prop :=
  (∃ y1 : Int, (next_of_R a5 y1) ∧ (∃ y2 : Int, (cron_Check_R a0 a1 a2 a3 a4 y2) ∧ (br (y2 != 0) ((0, false) = y) (∃ y20 : next_Last_l2_Y, next_Last_l2_L (a0, a1, a2, a3, a4, a5, y1, 0) y20 ∧ (((y20.1), (y20.2)) = y)))))
theorem q18_tree (a0 : Int) (a1 : Int) (a2 : Int) (a3 : Int) (a4 : Int) (a5 : Int) (y : Int × Bool) : acall q18_cx okT q18_lp 60 (.fn 18 [] []) [(V.agg [(V.int .u64 a0), (V.int .u64 a1), (V.int .u64 a2), (V.int .u64 a3), (V.int .u64 a4)]), (V.int .i64 a5)] [] (leafK (.tup (.cons (.int .i64) (.one .bool))) y) =
    (rqn 2 ((req true ((req true ((req true (∃ y1 : Int, (next_of_R a5 y1) ∧ (rqn 3 (∃ y2 : Int, (cron_Check_R a0 a1 a2 a3 a4 y2) ∧ (req true (br (y2 != 0) ((rqn 4 (req true ((0, false) = y))) ∧ (rqn 4 (req true ((0, false) = y)))) (rqn 6 (((none : Option Nat) = (none : Option Nat)) ∧ (q18_2_body = q18_2_body) ∧ ∃ z19 : next_Last_l2_Z, ∃ z19q : q18_2_Q, ∃ y20 : next_Last_l2_Y, (7 = 7) ∧ (∃ zc : q18_2_C, wk 7 ⟨[(0, (V.agg [(vu a0), (vu a1), (vu a2), (vu a3), (vu a4)])), (1, (vi y1)), (2, (vb true)), (3, (V.fn 42 [] [(V.ptr 1 0)])), (4, (V.ptr 2 0)), (7, (V.ptr 3 0)), (8, (V.ptr 4 0)), (9, (V.ptr 5 0)), (16, (vb (y2 != 0))), (10, (V.fn 105 [] [(V.ptr 6 0)])), (19, (vi 0))], [(Blk.cells [(vu a0), (vu a1), (vu a2), (vu a3), (vu a4)]), (Blk.cells [(vi a5)]), (Blk.cells [(vu a0), (vu a1), (vu a2), (vu a3), (vu a4)]), (Blk.cells [(V.fn 42 [] [(V.ptr 1 0)])]), (Blk.cells [(vi 0)]), (Blk.cells [(vb false)]), (Blk.cells [(vu a0), (vu a1), (vu a2), (vu a3), (vu a4)])], []⟩ (q18_2_st z19 z19q zc)) ∧ (∃ k, next_Last_l2 k z19 y20) ∧ ((req true ((req true ((rqn 4 (req true (((y20.1), (y20.2)) = y))) ∧ (rqn 4 (req true (((y20.1), (y20.2)) = y))))) ∧ (req true ((rqn 4 (req true (((y20.1), (y20.2)) = y))) ∧ (rqn 4 (req true (((y20.1), (y20.2)) = y))))))) ∧ (rqn 2 ((rqn 4 (req true (((y20.1), (y20.2)) = y))) ∧ (rqn 4 (req true (((y20.1), (y20.2)) = y)))))))))))))) ∧ (rqn 2 (∃ y21 : Int, (next_of_R a5 y21) ∧ (rqn 2 (∃ y22 : Int, (cron_Check_R a0 a1 a2 a3 a4 y22) ∧ (req true (br (y22 != 0) ((rqn 4 (req true ((0, false) = y))) ∧ (rqn 4 (req true ((0, false) = y)))) (rqn 6 (((none : Option Nat) = (none : Option Nat)) ∧ (q18_2_body = q18_2_body) ∧ ∃ z23 : next_Last_l2_Z, ∃ z23q : q18_2_Q, ∃ y24 : next_Last_l2_Y, (7 = 7) ∧ (∃ zc : q18_2_C, wk 7 ⟨[(0, (V.agg [(vu a0), (vu a1), (vu a2), (vu a3), (vu a4)])), (1, (vi y21)), (2, (vb true)), (3, (V.fn 42 [] [(V.ptr 1 0)])), (4, (V.ptr 2 0)), (7, (V.ptr 3 0)), (8, (V.ptr 4 0)), (9, (V.ptr 5 0)), (16, (vb (y22 != 0))), (10, (V.fn 105 [] [(V.ptr 6 0)])), (19, (vi 0))], [(Blk.cells [(vu a0), (vu a1), (vu a2), (vu a3), (vu a4)]), (Blk.cells [(vi a5)]), (Blk.cells [(vu a0), (vu a1), (vu a2), (vu a3), (vu a4)]), (Blk.cells [(V.fn 42 [] [(V.ptr 1 0)])]), (Blk.cells [(vi 0)]), (Blk.cells [(vb false)]), (Blk.cells [(vu a0), (vu a1), (vu a2), (vu a3), (vu a4)])], []⟩ (q18_2_st z23 z23q zc)) ∧ (∃ k, next_Last_l2 k z23 y24) ∧ ((req true ((req true ((rqn 4 (req true (((y24.1), (y24.2)) = y))) ∧ (rqn 4 (req true (((y24.1), (y24.2)) = y))))) ∧ (req true ((rqn 4 (req true (((y24.1), (y24.2)) = y))) ∧ (rqn 4 (req true (((y24.1), (y24.2)) = y))))))) ∧ (rqn 2 ((rqn 4 (req true (((y24.1), (y24.2)) = y))) ∧ (rqn 4 (req true (((y24.1), (y24.2)) = y)))))))))))))))) ∧ (rqn 3 (∃ y25 : Int, (next_of_R a5 y25) ∧ (rqn 2 (∃ y26 : Int, (cron_Check_R a0 a1 a2 a3 a4 y26) ∧ (req true (br (y26 != 0) ((rqn 4 (req true ((0, false) = y))) ∧ (rqn 4 (req true ((0, false) = y)))) (rqn 6 (((none : Option Nat) = (none : Option Nat)) ∧ (q18_2_body = q18_2_body) ∧ ∃ z27 : next_Last_l2_Z, ∃ z27q : q18_2_Q, ∃ y28 : next_Last_l2_Y, (7 = 7) ∧ (∃ zc : q18_2_C, wk 7 ⟨[(0, (V.agg [(vu a0), (vu a1), (vu a2), (vu a3), (vu a4)])), (1, (vi y25)), (2, (vb true)), (3, (V.fn 42 [] [(V.ptr 1 0)])), (4, (V.ptr 2 0)), (7, (V.ptr 3 0)), (8, (V.ptr 4 0)), (9, (V.ptr 5 0)), (16, (vb (y26 != 0))), (10, (V.fn 105 [] [(V.ptr 6 0)])), (19, (vi 0))], [(Blk.cells [(vu a0), (vu a1), (vu a2), (vu a3), (vu a4)]), (Blk.cells [(vi a5)]), (Blk.cells [(vu a0), (vu a1), (vu a2), (vu a3), (vu a4)]), (Blk.cells [(V.fn 42 [] [(V.ptr 1 0)])]), (Blk.cells [(vi 0)]), (Blk.cells [(vb false)]), (Blk.cells [(vu a0), (vu a1), (vu a2), (vu a3), (vu a4)])], []⟩ (q18_2_st z27 z27q zc)) ∧ (∃ k, next_Last_l2 k z27 y28) ∧ ((req true ((req true ((rqn 4 (req true (((y28.1), (y28.2)) = y))) ∧ (rqn 4 (req true (((y28.1), (y28.2)) = y))))) ∧ (req true ((rqn 4 (req true (((y28.1), (y28.2)) = y))) ∧ (rqn 4 (req true (((y28.1), (y28.2)) = y))))))) ∧ (rqn 2 ((rqn 4 (req true (((y28.1), (y28.2)) = y))) ∧ (rqn 4 (req true (((y28.1), (y28.2)) = y)))))))))))))))) ∧ (req true ((req true ((req true (∃ y29 : Int, (next_of_R a5 y29) ∧ (rqn 3 (∃ y30 : Int, (cron_Check_R a0 a1 a2 a3 a4 y30) ∧ (req true (br (y30 != 0) ((rqn 4 (req true ((0, false) = y))) ∧ (rqn 4 (req true ((0, false) = y)))) (rqn 6 (((none : Option Nat) = (none : Option Nat)) ∧ (q18_2_body = q18_2_body) ∧ ∃ z31 : next_Last_l2_Z, ∃ z31q : q18_2_Q, ∃ y32 : next_Last_l2_Y, (7 = 7) ∧ (∃ zc : q18_2_C, wk 7 ⟨[(0, (V.agg [(vu a0), (vu a1), (vu a2), (vu a3), (vu a4)])), (1, (vi y29)), (2, (vb true)), (3, (V.fn 42 [] [(V.ptr 1 0)])), (4, (V.ptr 2 0)), (7, (V.ptr 3 0)), (8, (V.ptr 4 0)), (9, (V.ptr 5 0)), (16, (vb (y30 != 0))), (10, (V.fn 105 [] [(V.ptr 6 0)])), (19, (vi 0))], [(Blk.cells [(vu a0), (vu a1), (vu a2), (vu a3), (vu a4)]), (Blk.cells [(vi a5)]), (Blk.cells [(vu a0), (vu a1), (vu a2), (vu a3), (vu a4)]), (Blk.cells [(V.fn 42 [] [(V.ptr 1 0)])]), (Blk.cells [(vi 0)]), (Blk.cells [(vb false)]), (Blk.cells [(vu a0), (vu a1), (vu a2), (vu a3), (vu a4)])], []⟩ (q18_2_st z31 z31q zc)) ∧ (∃ k, next_Last_l2 k z31 y32) ∧ ((req true ((req true ((rqn 4 (req true (((y32.1), (y32.2)) = y))) ∧ (rqn 4 (req true (((y32.1), (y32.2)) = y))))) ∧ (req true ((rqn 4 (req true (((y32.1), (y32.2)) = y))) ∧ (rqn 4 (req true (((y32.1), (y32.2)) = y))))))) ∧ (rqn 2 ((rqn 4 (req true (((y32.1), (y32.2)) = y))) ∧ (rqn 4 (req true (((y32.1), (y32.2)) = y)))))))))))))) ∧ (rqn 2 (∃ y33 : Int, (next_of_R a5 y33) ∧ (rqn 2 (∃ y34 : Int, (cron_Check_R a0 a1 a2 a3 a4 y34) ∧ (req true (br (y34 != 0) ((rqn 4 (req true ((0, false) = y))) ∧ (rqn 4 (req true ((0, false) = y)))) (rqn 6 (((none : Option Nat) = (none : Option Nat)) ∧ (q18_2_body = q18_2_body) ∧ ∃ z35 : next_Last_l2_Z, ∃ z35q : q18_2_Q, ∃ y36 : next_Last_l2_Y, (7 = 7) ∧ (∃ zc : q18_2_C, wk 7 ⟨[(0, (V.agg [(vu a0), (vu a1), (vu a2), (vu a3), (vu a4)])), (1, (vi y33)), (2, (vb true)), (3, (V.fn 42 [] [(V.ptr 1 0)])), (4, (V.ptr 2 0)), (7, (V.ptr 3 0)), (8, (V.ptr 4 0)), (9, (V.ptr 5 0)), (16, (vb (y34 != 0))), (10, (V.fn 105 [] [(V.ptr 6 0)])), (19, (vi 0))], [(Blk.cells [(vu a0), (vu a1), (vu a2), (vu a3), (vu a4)]), (Blk.cells [(vi a5)]), (Blk.cells [(vu a0), (vu a1), (vu a2), (vu a3), (vu a4)]), (Blk.cells [(V.fn 42 [] [(V.ptr 1 0)])]), (Blk.cells [(vi 0)]), (Blk.cells [(vb false)]), (Blk.cells [(vu a0), (vu a1), (vu a2), (vu a3), (vu a4)])], []⟩ (q18_2_st z35 z35q zc)) ∧ (∃ k, next_Last_l2 k z35 y36) ∧ ((req true ((req true ((rqn 4 (req true (((y36.1), (y36.2)) = y))) ∧ (rqn 4 (req true (((y36.1), (y36.2)) = y))))) ∧ (req true ((rqn 4 (req true (((y36.1), (y36.2)) = y))) ∧ (rqn 4 (req true (((y36.1), (y36.2)) = y))))))) ∧ (rqn 2 ((rqn 4 (req true (((y36.1), (y36.2)) = y))) ∧ (rqn 4 (req true (((y36.1), (y36.2)) = y)))))))))))))))) ∧ (req true (∃ y37 : Int, (next_of_R a5 y37) ∧ ((rqn 4 (∃ y38 : Int, (cron_Check_R a0 a1 a2 a3 a4 y38) ∧ (req true (br (y38 != 0) ((rqn 4 (req true ((0, false) = y))) ∧ (rqn 4 (req true ((0, false) = y)))) (rqn 6 (((none : Option Nat) = (none : Option Nat)) ∧ (q18_2_body = q18_2_body) ∧ ∃ z39 : next_Last_l2_Z, ∃ z39q : q18_2_Q, ∃ y40 : next_Last_l2_Y, (7 = 7) ∧ (∃ zc : q18_2_C, wk 7 ⟨[(0, (V.agg [(vu a0), (vu a1), (vu a2), (vu a3), (vu a4)])), (1, (vi y37)), (2, (vb true)), (3, (V.fn 42 [] [(V.ptr 1 0)])), (4, (V.ptr 2 0)), (7, (V.ptr 3 0)), (8, (V.ptr 4 0)), (9, (V.ptr 5 0)), (16, (vb (y38 != 0))), (10, (V.fn 105 [] [(V.ptr 6 0)])), (19, (vi 0))], [(Blk.cells [(vu a0), (vu a1), (vu a2), (vu a3), (vu a4)]), (Blk.cells [(vi a5)]), (Blk.cells [(vu a0), (vu a1), (vu a2), (vu a3), (vu a4)]), (Blk.cells [(V.fn 42 [] [(V.ptr 1 0)])]), (Blk.cells [(vi 0)]), (Blk.cells [(vb false)]), (Blk.cells [(vu a0), (vu a1), (vu a2), (vu a3), (vu a4)])], []⟩ (q18_2_st z39 z39q zc)) ∧ (∃ k, next_Last_l2 k z39 y40) ∧ ((req true ((req true ((rqn 4 (req true (((y40.1), (y40.2)) = y))) ∧ (rqn 4 (req true (((y40.1), (y40.2)) = y))))) ∧ (req true ((rqn 4 (req true (((y40.1), (y40.2)) = y))) ∧ (rqn 4 (req true (((y40.1), (y40.2)) = y))))))) ∧ (rqn 2 ((rqn 4 (req true (((y40.1), (y40.2)) = y))) ∧ (rqn 4 (req true (((y40.1), (y40.2)) = y)))))))))))) ∧ (rqn 4 (∃ y41 : Int, (cron_Check_R a0 a1 a2 a3 a4 y41) ∧ (req true (br (y41 != 0) ((rqn 4 (req true ((0, false) = y))) ∧ (rqn 4 (req true ((0, false) = y)))) (rqn 6 (((none : Option Nat) = (none : Option Nat)) ∧ (q18_2_body = q18_2_body) ∧ ∃ z42 : next_Last_l2_Z, ∃ z42q : q18_2_Q, ∃ y43 : next_Last_l2_Y, (7 = 7) ∧ (∃ zc : q18_2_C, wk 7 ⟨[(0, (V.agg [(vu a0), (vu a1), (vu a2), (vu a3), (vu a4)])), (1, (vi y37)), (2, (vb true)), (3, (V.fn 42 [] [(V.ptr 1 0)])), (4, (V.ptr 2 0)), (7, (V.ptr 3 0)), (8, (V.ptr 4 0)), (9, (V.ptr 5 0)), (16, (vb (y41 != 0))), (10, (V.fn 105 [] [(V.ptr 6 0)])), (19, (vi 0))], [(Blk.cells [(vu a0), (vu a1), (vu a2), (vu a3), (vu a4)]), (Blk.cells [(vi a5)]), (Blk.cells [(vu a0), (vu a1), (vu a2), (vu a3), (vu a4)]), (Blk.cells [(V.fn 42 [] [(V.ptr 1 0)])]), (Blk.cells [(vi 0)]), (Blk.cells [(vb false)]), (Blk.cells [(vu a0), (vu a1), (vu a2), (vu a3), (vu a4)])], []⟩ (q18_2_st z42 z42q zc)) ∧ (∃ k, next_Last_l2 k z42 y43) ∧ ((req true ((req true ((rqn 4 (req true (((y43.1), (y43.2)) = y))) ∧ (rqn 4 (req true (((y43.1), (y43.2)) = y))))) ∧ (req true ((rqn 4 (req true (((y43.1), (y43.2)) = y))) ∧ (rqn 4 (req true (((y43.1), (y43.2)) = y))))))) ∧ (rqn 2 ((rqn 4 (req true (((y43.1), (y43.2)) = y))) ∧ (rqn 4 (req true (((y43.1), (y43.2)) = y))))))))))))))) ∧ (req true ((rqn 2 (∃ y44 : Int, (next_of_R a5 y44) ∧ (rqn 2 (∃ y45 : Int, (cron_Check_R a0 a1 a2 a3 a4 y45) ∧ (req true (br (y45 != 0) ((rqn 4 (req true ((0, false) = y))) ∧ (rqn 4 (req true ((0, false) = y)))) (rqn 6 (((none : Option Nat) = (none : Option Nat)) ∧ (q18_2_body = q18_2_body) ∧ ∃ z46 : next_Last_l2_Z, ∃ z46q : q18_2_Q, ∃ y47 : next_Last_l2_Y, (7 = 7) ∧ (∃ zc : q18_2_C, wk 7 ⟨[(0, (V.agg [(vu a0), (vu a1), (vu a2), (vu a3), (vu a4)])), (1, (vi y44)), (2, (vb true)), (3, (V.fn 42 [] [(V.ptr 1 0)])), (4, (V.ptr 2 0)), (7, (V.ptr 3 0)), (8, (V.ptr 4 0)), (9, (V.ptr 5 0)), (16, (vb (y45 != 0))), (10, (V.fn 105 [] [(V.ptr 6 0)])), (19, (vi 0))], [(Blk.cells [(vu a0), (vu a1), (vu a2), (vu a3), (vu a4)]), (Blk.cells [(vi a5)]), (Blk.cells [(vu a0), (vu a1), (vu a2), (vu a3), (vu a4)]), (Blk.cells [(V.fn 42 [] [(V.ptr 1 0)])]), (Blk.cells [(vi 0)]), (Blk.cells [(vb false)]), (Blk.cells [(vu a0), (vu a1), (vu a2), (vu a3), (vu a4)])], []⟩ (q18_2_st z46 z46q zc)) ∧ (∃ k, next_Last_l2 k z46 y47) ∧ ((req true ((req true ((rqn 4 (req true (((y47.1), (y47.2)) = y))) ∧ (rqn 4 (req true (((y47.1), (y47.2)) = y))))) ∧ (req true ((rqn 4 (req true (((y47.1), (y47.2)) = y))) ∧ (rqn 4 (req true (((y47.1), (y47.2)) = y))))))) ∧ (rqn 2 ((rqn 4 (req true (((y47.1), (y47.2)) = y))) ∧ (rqn 4 (req true (((y47.1), (y47.2)) = y)))))))))))))) ∧ (req true (∃ y48 : Int, (next_of_R a5 y48) ∧ (rqn 3 (∃ y49 : Int, (cron_Check_R a0 a1 a2 a3 a4 y49) ∧ (req true (br (y49 != 0) ((rqn 4 (req true ((0, false) = y))) ∧ (rqn 4 (req true ((0, false) = y)))) (rqn 6 (((none : Option Nat) = (none : Option Nat)) ∧ (q18_2_body = q18_2_body) ∧ ∃ z50 : next_Last_l2_Z, ∃ z50q : q18_2_Q, ∃ y51 : next_Last_l2_Y, (7 = 7) ∧ (∃ zc : q18_2_C, wk 7 ⟨[(0, (V.agg [(vu a0), (vu a1), (vu a2), (vu a3), (vu a4)])), (1, (vi y48)), (2, (vb true)), (3, (V.fn 42 [] [(V.ptr 1 0)])), (4, (V.ptr 2 0)), (7, (V.ptr 3 0)), (8, (V.ptr 4 0)), (9, (V.ptr 5 0)), (16, (vb (y49 != 0))), (10, (V.fn 105 [] [(V.ptr 6 0)])), (19, (vi 0))], [(Blk.cells [(vu a0), (vu a1), (vu a2), (vu a3), (vu a4)]), (Blk.cells [(vi a5)]), (Blk.cells [(vu a0), (vu a1), (vu a2), (vu a3), (vu a4)]), (Blk.cells [(V.fn 42 [] [(V.ptr 1 0)])]), (Blk.cells [(vi 0)]), (Blk.cells [(vb false)]), (Blk.cells [(vu a0), (vu a1), (vu a2), (vu a3), (vu a4)])], []⟩ (q18_2_st z50 z50q zc)) ∧ (∃ k, next_Last_l2 k z50 y51) ∧ ((req true ((req true ((rqn 4 (req true (((y51.1), (y51.2)) = y))) ∧ (rqn 4 (req true (((y51.1), (y51.2)) = y))))) ∧ (req true ((rqn 4 (req true (((y51.1), (y51.2)) = y))) ∧ (rqn 4 (req true (((y51.1), (y51.2)) = y))))))) ∧ (rqn 2 ((rqn 4 (req true (((y51.1), (y51.2)) = y))) ∧ (rqn 4 (req true (((y51.1), (y51.2)) = y)))))))))))))))))) ∧ (req true ((rqn 3 (∃ y52 : Int, (next_of_R a5 y52) ∧ (rqn 2 (∃ y53 : Int, (cron_Check_R a0 a1 a2 a3 a4 y53) ∧ (req true (br (y53 != 0) ((rqn 4 (req true ((0, false) = y))) ∧ (rqn 4 (req true ((0, false) = y)))) (rqn 6 (((none : Option Nat) = (none : Option Nat)) ∧ (q18_2_body = q18_2_body) ∧ ∃ z54 : next_Last_l2_Z, ∃ z54q : q18_2_Q, ∃ y55 : next_Last_l2_Y, (7 = 7) ∧ (∃ zc : q18_2_C, wk 7 ⟨[(0, (V.agg [(vu a0), (vu a1), (vu a2), (vu a3), (vu a4)])), (1, (vi y52)), (2, (vb true)), (3, (V.fn 42 [] [(V.ptr 1 0)])), (4, (V.ptr 2 0)), (7, (V.ptr 3 0)), (8, (V.ptr 4 0)), (9, (V.ptr 5 0)), (16, (vb (y53 != 0))), (10, (V.fn 105 [] [(V.ptr 6 0)])), (19, (vi 0))], [(Blk.cells [(vu a0), (vu a1), (vu a2), (vu a3), (vu a4)]), (Blk.cells [(vi a5)]), (Blk.cells [(vu a0), (vu a1), (vu a2), (vu a3), (vu a4)]), (Blk.cells [(V.fn 42 [] [(V.ptr 1 0)])]), (Blk.cells [(vi 0)]), (Blk.cells [(vb false)]), (Blk.cells [(vu a0), (vu a1), (vu a2), (vu a3), (vu a4)])], []⟩ (q18_2_st z54 z54q zc)) ∧ (∃ k, next_Last_l2 k z54 y55) ∧ ((req true ((req true ((rqn 4 (req true (((y55.1), (y55.2)) = y))) ∧ (rqn 4 (req true (((y55.1), (y55.2)) = y))))) ∧ (req true ((rqn 4 (req true (((y55.1), (y55.2)) = y))) ∧ (rqn 4 (req true (((y55.1), (y55.2)) = y))))))) ∧ (rqn 2 ((rqn 4 (req true (((y55.1), (y55.2)) = y))) ∧ (rqn 4 (req true (((y55.1), (y55.2)) = y)))))))))))))) ∧ (req true ((rqn 2 (∃ y56 : Int, (next_of_R a5 y56) ∧ (rqn 2 (∃ y57 : Int, (cron_Check_R a0 a1 a2 a3 a4 y57) ∧ (req true (br (y57 != 0) ((rqn 4 (req true ((0, false) = y))) ∧ (rqn 4 (req true ((0, false) = y)))) (rqn 6 (((none : Option Nat) = (none : Option Nat)) ∧ (q18_2_body = q18_2_body) ∧ ∃ z58 : next_Last_l2_Z, ∃ z58q : q18_2_Q, ∃ y59 : next_Last_l2_Y, (7 = 7) ∧ (∃ zc : q18_2_C, wk 7 ⟨[(0, (V.agg [(vu a0), (vu a1), (vu a2), (vu a3), (vu a4)])), (1, (vi y56)), (2, (vb true)), (3, (V.fn 42 [] [(V.ptr 1 0)])), (4, (V.ptr 2 0)), (7, (V.ptr 3 0)), (8, (V.ptr 4 0)), (9, (V.ptr 5 0)), (16, (vb (y57 != 0))), (10, (V.fn 105 [] [(V.ptr 6 0)])), (19, (vi 0))], [(Blk.cells [(vu a0), (vu a1), (vu a2), (vu a3), (vu a4)]), (Blk.cells [(vi a5)]), (Blk.cells [(vu a0), (vu a1), (vu a2), (vu a3), (vu a4)]), (Blk.cells [(V.fn 42 [] [(V.ptr 1 0)])]), (Blk.cells [(vi 0)]), (Blk.cells [(vb false)]), (Blk.cells [(vu a0), (vu a1), (vu a2), (vu a3), (vu a4)])], []⟩ (q18_2_st z58 z58q zc)) ∧ (∃ k, next_Last_l2 k z58 y59) ∧ ((req true ((req true ((rqn 4 (req true (((y59.1), (y59.2)) = y))) ∧ (rqn 4 (req true (((y59.1), (y59.2)) = y))))) ∧ (req true ((rqn 4 (req true (((y59.1), (y59.2)) = y))) ∧ (rqn 4 (req true (((y59.1), (y59.2)) = y))))))) ∧ (rqn 2 ((rqn 4 (req true (((y59.1), (y59.2)) = y))) ∧ (rqn 4 (req true (((y59.1), (y59.2)) = y)))))))))))))) ∧ (req true (∃ y60 : Int, (next_of_R a5 y60) ∧ (rqn 3 (∃ y61 : Int, (cron_Check_R a0 a1 a2 a3 a4 y61) ∧ (req true (br (y61 != 0) ((rqn 4 (req true ((0, false) = y))) ∧ (rqn 4 (req true ((0, false) = y)))) (rqn 6 (((none : Option Nat) = (none : Option Nat)) ∧ (q18_2_body = q18_2_body) ∧ ∃ z62 : next_Last_l2_Z, ∃ z62q : q18_2_Q, ∃ y63 : next_Last_l2_Y, (7 = 7) ∧ (∃ zc : q18_2_C, wk 7 ⟨[(0, (V.agg [(vu a0), (vu a1), (vu a2), (vu a3), (vu a4)])), (1, (vi y60)), (2, (vb true)), (3, (V.fn 42 [] [(V.ptr 1 0)])), (4, (V.ptr 2 0)), (7, (V.ptr 3 0)), (8, (V.ptr 4 0)), (9, (V.ptr 5 0)), (16, (vb (y61 != 0))), (10, (V.fn 105 [] [(V.ptr 6 0)])), (19, (vi 0))], [(Blk.cells [(vu a0), (vu a1), (vu a2), (vu a3), (vu a4)]), (Blk.cells [(vi a5)]), (Blk.cells [(vu a0), (vu a1), (vu a2), (vu a3), (vu a4)]), (Blk.cells [(V.fn 42 [] [(V.ptr 1 0)])]), (Blk.cells [(vi 0)]), (Blk.cells [(vb false)]), (Blk.cells [(vu a0), (vu a1), (vu a2), (vu a3), (vu a4)])], []⟩ (q18_2_st z62 z62q zc)) ∧ (∃ k, next_Last_l2 k z62 y63) ∧ ((req true ((req true ((rqn 4 (req true (((y63.1), (y63.2)) = y))) ∧ (rqn 4 (req true (((y63.1), (y63.2)) = y))))) ∧ (req true ((rqn 4 (req true (((y63.1), (y63.2)) = y))) ∧ (rqn 4 (req true (((y63.1), (y63.2)) = y))))))) ∧ (rqn 2 ((rqn 4 (req true (((y63.1), (y63.2)) = y))) ∧ (rqn 4 (req true (((y63.1), (y63.2)) = y)))))))))))))))))))) := by kernel_rfl
theorem q18_run (a0 : Int) (a1 : Int) (a2 : Int) (a3 : Int) (a4 : Int) (a5 : Int) (y : Int × Bool) (h : next_Last_R a0 a1 a2 a3 a4 a5 y) : acall q18_cx okT q18_lp 60 (.fn 18 [] []) [(V.agg [(V.int .u64 a0), (V.int .u64 a1), (V.int .u64 a2), (V.int .u64 a3), (V.int .u64 a4)]), (V.int .i64 a5)] [] (leafK (.tup (.cons (.int .i64) (.one .bool))) y) := by
  refine cast (q18_tree a0 a1 a2 a3 a4 a5 y).symm ?_
  unfold next_Last_R at h
  refine rqn_intro 2 ?_
  refine ⟨?_, ?_, ?_⟩
  · refine req_intro rfl ?_
    refine ⟨?_, ?_⟩
    · refine req_intro rfl ?_
      refine ⟨?_, ?_⟩
      · refine req_intro rfl ?_
        refine ex_both h fun y1 h => ?_
        refine rqn_intro 3 ?_
        refine ex_both h fun y2 h => ?_
        refine req_intro rfl ?_
        refine br_both h (fun hb h => ?_) (fun hb h => ?_)
        · refine ⟨?_, ?_⟩
          · refine rqn_intro 4 ?_
            exact req_intro rfl h
          · refine rqn_intro 4 ?_
            exact req_intro rfl h
        · refine rqn_intro 6 ?_
          obtain ⟨y20, ry20, h⟩ := h
          refine ⟨rfl, rfl, (a0, a1, a2, a3, a4, a5, y1, 0), (), y20, rfl, ⟨(), wk_of (Or.inr ⟨⟨Or.inl rfl, Or.inl rfl, Or.inl rfl, Or.inl rfl, Or.inl rfl, Or.inl rfl, Or.inl rfl, Or.inl rfl, trivial⟩, ⟨Or.inl rfl, Or.inl rfl, Or.inl rfl, Or.inl rfl, Or.inl rfl, Or.inl rfl, Or.inl rfl, trivial⟩, rfl, rfl, rfl⟩)⟩, ry20, ?_⟩
          refine ⟨?_, ?_⟩
          · refine req_intro rfl ?_
            refine ⟨?_, ?_⟩
            · refine req_intro rfl ?_
              refine ⟨?_, ?_⟩
              · refine rqn_intro 4 ?_
                exact req_intro rfl h
              · refine rqn_intro 4 ?_
                exact req_intro rfl h
            · refine req_intro rfl ?_
              refine ⟨?_, ?_⟩
              · refine rqn_intro 4 ?_
                exact req_intro rfl h
              · refine rqn_intro 4 ?_
                exact req_intro rfl h
          · refine rqn_intro 2 ?_
            refine ⟨?_, ?_⟩
            · refine rqn_intro 4 ?_
              exact req_intro rfl h
            · refine rqn_intro 4 ?_
              exact req_intro rfl h
      · refine rqn_intro 2 ?_
        refine ex_both h fun y21 h => ?_
        refine rqn_intro 2 ?_
        refine ex_both h fun y22 h => ?_
        refine req_intro rfl ?_
        refine br_both h (fun hb h => ?_) (fun hb h => ?_)
        · refine ⟨?_, ?_⟩
          · refine rqn_intro 4 ?_
            exact req_intro rfl h
          · refine rqn_intro 4 ?_
            exact req_intro rfl h
        · refine rqn_intro 6 ?_
          obtain ⟨y24, ry24, h⟩ := h
          refine ⟨rfl, rfl, (a0, a1, a2, a3, a4, a5, y21, 0), (), y24, rfl, ⟨(), wk_of (Or.inr ⟨⟨Or.inl rfl, Or.inl rfl, Or.inl rfl, Or.inl rfl, Or.inl rfl, Or.inl rfl, Or.inl rfl, Or.inl rfl, trivial⟩, ⟨Or.inl rfl, Or.inl rfl, Or.inl rfl, Or.inl rfl, Or.inl rfl, Or.inl rfl, Or.inl rfl, trivial⟩, rfl, rfl, rfl⟩)⟩, ry24, ?_⟩
          refine ⟨?_, ?_⟩
          · refine req_intro rfl ?_
            refine ⟨?_, ?_⟩
            · refine req_intro rfl ?_
              refine ⟨?_, ?_⟩
              · refine rqn_intro 4 ?_
                exact req_intro rfl h
              · refine rqn_intro 4 ?_
                exact req_intro rfl h
            · refine req_intro rfl ?_
              refine ⟨?_, ?_⟩
              · refine rqn_intro 4 ?_
                exact req_intro rfl h
              · refine rqn_intro 4 ?_
                exact req_intro rfl h
          · refine rqn_intro 2 ?_
            refine ⟨?_, ?_⟩
            · refine rqn_intro 4 ?_
              exact req_intro rfl h
            · refine rqn_intro 4 ?_
              exact req_intro rfl h
    · refine rqn_intro 3 ?_
      refine ex_both h fun y25 h => ?_
      refine rqn_intro 2 ?_
      refine ex_both h fun y26 h => ?_
      refine req_intro rfl ?_
      refine br_both h (fun hb h => ?_) (fun hb h => ?_)
      · refine ⟨?_, ?_⟩
        · refine rqn_intro 4 ?_
          exact req_intro rfl h
        · refine rqn_intro 4 ?_
          exact req_intro rfl h
      · refine rqn_intro 6 ?_
        obtain ⟨y28, ry28, h⟩ := h
        refine ⟨rfl, rfl, (a0, a1, a2, a3, a4, a5, y25, 0), (), y28, rfl, ⟨(), wk_of (Or.inr ⟨⟨Or.inl rfl, Or.inl rfl, Or.inl rfl, Or.inl rfl, Or.inl rfl, Or.inl rfl, Or.inl rfl, Or.inl rfl, trivial⟩, ⟨Or.inl rfl, Or.inl rfl, Or.inl rfl, Or.inl rfl, Or.inl rfl, Or.inl rfl, Or.inl rfl, trivial⟩, rfl, rfl, rfl⟩)⟩, ry28, ?_⟩
        refine ⟨?_, ?_⟩
        · refine req_intro rfl ?_
          refine ⟨?_, ?_⟩
          · refine req_intro rfl ?_
            refine ⟨?_, ?_⟩
            · refine rqn_intro 4 ?_
              exact req_intro rfl h
            · refine rqn_intro 4 ?_
              exact req_intro rfl h
          · refine req_intro rfl ?_
            refine ⟨?_, ?_⟩
            · refine rqn_intro 4 ?_
              exact req_intro rfl h
            · refine rqn_intro 4 ?_
              exact req_intro rfl h
        · refine rqn_intro 2 ?_
          refine ⟨?_, ?_⟩
          · refine rqn_intro 4 ?_
            exact req_intro rfl h
          · refine rqn_intro 4 ?_
            exact req_intro rfl h
  · refine req_intro rfl ?_
    refine ⟨?_, ?_, ?_⟩
    · refine req_intro rfl ?_
      refine ⟨?_, ?_⟩
      · refine req_intro rfl ?_
        refine ex_both h fun y29 h => ?_
        refine rqn_intro 3 ?_
        refine ex_both h fun y30 h => ?_
        refine req_intro rfl ?_
        refine br_both h (fun hb h => ?_) (fun hb h => ?_)
        · refine ⟨?_, ?_⟩
          · refine rqn_intro 4 ?_
            exact req_intro rfl h
          · refine rqn_intro 4 ?_
            exact req_intro rfl h
        · refine rqn_intro 6 ?_
          obtain ⟨y32, ry32, h⟩ := h
          refine ⟨rfl, rfl, (a0, a1, a2, a3, a4, a5, y29, 0), (), y32, rfl, ⟨(), wk_of (Or.inr ⟨⟨Or.inl rfl, Or.inl rfl, Or.inl rfl, Or.inl rfl, Or.inl rfl, Or.inl rfl, Or.inl rfl, Or.inl rfl, trivial⟩, ⟨Or.inl rfl, Or.inl rfl, Or.inl rfl, Or.inl rfl, Or.inl rfl, Or.inl rfl, Or.inl rfl, trivial⟩, rfl, rfl, rfl⟩)⟩, ry32, ?_⟩
          refine ⟨?_, ?_⟩
          · refine req_intro rfl ?_
            refine ⟨?_, ?_⟩
            · refine req_intro rfl ?_
              refine ⟨?_, ?_⟩
              · refine rqn_intro 4 ?_
                exact req_intro rfl h
              · refine rqn_intro 4 ?_
                exact req_intro rfl h
            · refine req_intro rfl ?_
              refine ⟨?_, ?_⟩
              · refine rqn_intro 4 ?_
                exact req_intro rfl h
              · refine rqn_intro 4 ?_
                exact req_intro rfl h
          · refine rqn_intro 2 ?_
            refine ⟨?_, ?_⟩
            · refine rqn_intro 4 ?_
              exact req_intro rfl h
            · refine rqn_intro 4 ?_
              exact req_intro rfl h
      · refine rqn_intro 2 ?_
        refine ex_both h fun y33 h => ?_
        refine rqn_intro 2 ?_
        refine ex_both h fun y34 h => ?_
        refine req_intro rfl ?_
        refine br_both h (fun hb h => ?_) (fun hb h => ?_)
        · refine ⟨?_, ?_⟩
          · refine rqn_intro 4 ?_
            exact req_intro rfl h
          · refine rqn_intro 4 ?_
            exact req_intro rfl h
        · refine rqn_intro 6 ?_
          obtain ⟨y36, ry36, h⟩ := h
          refine ⟨rfl, rfl, (a0, a1, a2, a3, a4, a5, y33, 0), (), y36, rfl, ⟨(), wk_of (Or.inr ⟨⟨Or.inl rfl, Or.inl rfl, Or.inl rfl, Or.inl rfl, Or.inl rfl, Or.inl rfl, Or.inl rfl, Or.inl rfl, trivial⟩, ⟨Or.inl rfl, Or.inl rfl, Or.inl rfl, Or.inl rfl, Or.inl rfl, Or.inl rfl, Or.inl rfl, trivial⟩, rfl, rfl, rfl⟩)⟩, ry36, ?_⟩
          refine ⟨?_, ?_⟩
          · refine req_intro rfl ?_
            refine ⟨?_, ?_⟩
            · refine req_intro rfl ?_
              refine ⟨?_, ?_⟩
              · refine rqn_intro 4 ?_
                exact req_intro rfl h
              · refine rqn_intro 4 ?_
                exact req_intro rfl h
            · refine req_intro rfl ?_
              refine ⟨?_, ?_⟩
              · refine rqn_intro 4 ?_
                exact req_intro rfl h
              · refine rqn_intro 4 ?_
                exact req_intro rfl h
          · refine rqn_intro 2 ?_
            refine ⟨?_, ?_⟩
            · refine rqn_intro 4 ?_
              exact req_intro rfl h
            · refine rqn_intro 4 ?_
              exact req_intro rfl h
    · refine req_intro rfl ?_
      refine ex_both h fun y37 h => ?_
      refine ⟨?_, ?_⟩
      · refine rqn_intro 4 ?_
        refine ex_both h fun y38 h => ?_
        refine req_intro rfl ?_
        refine br_both h (fun hb h => ?_) (fun hb h => ?_)
        · refine ⟨?_, ?_⟩
          · refine rqn_intro 4 ?_
            exact req_intro rfl h
          · refine rqn_intro 4 ?_
            exact req_intro rfl h
        · refine rqn_intro 6 ?_
          obtain ⟨y40, ry40, h⟩ := h
          refine ⟨rfl, rfl, (a0, a1, a2, a3, a4, a5, y37, 0), (), y40, rfl, ⟨(), wk_of (Or.inr ⟨⟨Or.inl rfl, Or.inl rfl, Or.inl rfl, Or.inl rfl, Or.inl rfl, Or.inl rfl, Or.inl rfl, Or.inl rfl, trivial⟩, ⟨Or.inl rfl, Or.inl rfl, Or.inl rfl, Or.inl rfl, Or.inl rfl, Or.inl rfl, Or.inl rfl, trivial⟩, rfl, rfl, rfl⟩)⟩, ry40, ?_⟩
          refine ⟨?_, ?_⟩
          · refine req_intro rfl ?_
            refine ⟨?_, ?_⟩
            · refine req_intro rfl ?_
              refine ⟨?_, ?_⟩
              · refine rqn_intro 4 ?_
                exact req_intro rfl h
              · refine rqn_intro 4 ?_
                exact req_intro rfl h
            · refine req_intro rfl ?_
              refine ⟨?_, ?_⟩
              · refine rqn_intro 4 ?_
                exact req_intro rfl h
              · refine rqn_intro 4 ?_
                exact req_intro rfl h
          · refine rqn_intro 2 ?_
            refine ⟨?_, ?_⟩
            · refine rqn_intro 4 ?_
              exact req_intro rfl h
            · refine rqn_intro 4 ?_
              exact req_intro rfl h
      · refine rqn_intro 4 ?_
        refine ex_both h fun y41 h => ?_
        refine req_intro rfl ?_
        refine br_both h (fun hb h => ?_) (fun hb h => ?_)
        · refine ⟨?_, ?_⟩
          · refine rqn_intro 4 ?_
            exact req_intro rfl h
          · refine rqn_intro 4 ?_
            exact req_intro rfl h
        · refine rqn_intro 6 ?_
          obtain ⟨y43, ry43, h⟩ := h
          refine ⟨rfl, rfl, (a0, a1, a2, a3, a4, a5, y37, 0), (), y43, rfl, ⟨(), wk_of (Or.inr ⟨⟨Or.inl rfl, Or.inl rfl, Or.inl rfl, Or.inl rfl, Or.inl rfl, Or.inl rfl, Or.inl rfl, Or.inl rfl, trivial⟩, ⟨Or.inl rfl, Or.inl rfl, Or.inl rfl, Or.inl rfl, Or.inl rfl, Or.inl rfl, Or.inl rfl, trivial⟩, rfl, rfl, rfl⟩)⟩, ry43, ?_⟩
          refine ⟨?_, ?_⟩
          · refine req_intro rfl ?_
            refine ⟨?_, ?_⟩
            · refine req_intro rfl ?_
              refine ⟨?_, ?_⟩
              · refine rqn_intro 4 ?_
                exact req_intro rfl h
              · refine rqn_intro 4 ?_
                exact req_intro rfl h
            · refine req_intro rfl ?_
              refine ⟨?_, ?_⟩
              · refine rqn_intro 4 ?_
                exact req_intro rfl h
              · refine rqn_intro 4 ?_
                exact req_intro rfl h
          · refine rqn_intro 2 ?_
            refine ⟨?_, ?_⟩
            · refine rqn_intro 4 ?_
              exact req_intro rfl h
            · refine rqn_intro 4 ?_
              exact req_intro rfl h
    · refine req_intro rfl ?_
      refine ⟨?_, ?_⟩
      · refine rqn_intro 2 ?_
        refine ex_both h fun y44 h => ?_
        refine rqn_intro 2 ?_
        refine ex_both h fun y45 h => ?_
        refine req_intro rfl ?_
        refine br_both h (fun hb h => ?_) (fun hb h => ?_)
        · refine ⟨?_, ?_⟩
          · refine rqn_intro 4 ?_
            exact req_intro rfl h
          · refine rqn_intro 4 ?_
            exact req_intro rfl h
        · refine rqn_intro 6 ?_
          obtain ⟨y47, ry47, h⟩ := h
          refine ⟨rfl, rfl, (a0, a1, a2, a3, a4, a5, y44, 0), (), y47, rfl, ⟨(), wk_of (Or.inr ⟨⟨Or.inl rfl, Or.inl rfl, Or.inl rfl, Or.inl rfl, Or.inl rfl, Or.inl rfl, Or.inl rfl, Or.inl rfl, trivial⟩, ⟨Or.inl rfl, Or.inl rfl, Or.inl rfl, Or.inl rfl, Or.inl rfl, Or.inl rfl, Or.inl rfl, trivial⟩, rfl, rfl, rfl⟩)⟩, ry47, ?_⟩
          refine ⟨?_, ?_⟩
          · refine req_intro rfl ?_
            refine ⟨?_, ?_⟩
            · refine req_intro rfl ?_
              refine ⟨?_, ?_⟩
              · refine rqn_intro 4 ?_
                exact req_intro rfl h
              · refine rqn_intro 4 ?_
                exact req_intro rfl h
            · refine req_intro rfl ?_
              refine ⟨?_, ?_⟩
              · refine rqn_intro 4 ?_
                exact req_intro rfl h
              · refine rqn_intro 4 ?_
                exact req_intro rfl h
          · refine rqn_intro 2 ?_
            refine ⟨?_, ?_⟩
            · refine rqn_intro 4 ?_
              exact req_intro rfl h
            · refine rqn_intro 4 ?_
              exact req_intro rfl h
      · refine req_intro rfl ?_
        refine ex_both h fun y48 h => ?_
        refine rqn_intro 3 ?_
        refine ex_both h fun y49 h => ?_
        refine req_intro rfl ?_
        refine br_both h (fun hb h => ?_) (fun hb h => ?_)
        · refine ⟨?_, ?_⟩
          · refine rqn_intro 4 ?_
            exact req_intro rfl h
          · refine rqn_intro 4 ?_
            exact req_intro rfl h
        · refine rqn_intro 6 ?_
          obtain ⟨y51, ry51, h⟩ := h
          refine ⟨rfl, rfl, (a0, a1, a2, a3, a4, a5, y48, 0), (), y51, rfl, ⟨(), wk_of (Or.inr ⟨⟨Or.inl rfl, Or.inl rfl, Or.inl rfl, Or.inl rfl, Or.inl rfl, Or.inl rfl, Or.inl rfl, Or.inl rfl, trivial⟩, ⟨Or.inl rfl, Or.inl rfl, Or.inl rfl, Or.inl rfl, Or.inl rfl, Or.inl rfl, Or.inl rfl, trivial⟩, rfl, rfl, rfl⟩)⟩, ry51, ?_⟩
          refine ⟨?_, ?_⟩
          · refine req_intro rfl ?_
            refine ⟨?_, ?_⟩
            · refine req_intro rfl ?_
              refine ⟨?_, ?_⟩
              · refine rqn_intro 4 ?_
                exact req_intro rfl h
              · refine rqn_intro 4 ?_
                exact req_intro rfl h
            · refine req_intro rfl ?_
              refine ⟨?_, ?_⟩
              · refine rqn_intro 4 ?_
                exact req_intro rfl h
              · refine rqn_intro 4 ?_
                exact req_intro rfl h
          · refine rqn_intro 2 ?_
            refine ⟨?_, ?_⟩
            · refine rqn_intro 4 ?_
              exact req_intro rfl h
            · refine rqn_intro 4 ?_
              exact req_intro rfl h
  · refine req_intro rfl ?_
    refine ⟨?_, ?_⟩
    · refine rqn_intro 3 ?_
      refine ex_both h fun y52 h => ?_
      refine rqn_intro 2 ?_
      refine ex_both h fun y53 h => ?_
      refine req_intro rfl ?_
      refine br_both h (fun hb h => ?_) (fun hb h => ?_)
      · refine ⟨?_, ?_⟩
        · refine rqn_intro 4 ?_
          exact req_intro rfl h
        · refine rqn_intro 4 ?_
          exact req_intro rfl h
      · refine rqn_intro 6 ?_
        obtain ⟨y55, ry55, h⟩ := h
        refine ⟨rfl, rfl, (a0, a1, a2, a3, a4, a5, y52, 0), (), y55, rfl, ⟨(), wk_of (Or.inr ⟨⟨Or.inl rfl, Or.inl rfl, Or.inl rfl, Or.inl rfl, Or.inl rfl, Or.inl rfl, Or.inl rfl, Or.inl rfl, trivial⟩, ⟨Or.inl rfl, Or.inl rfl, Or.inl rfl, Or.inl rfl, Or.inl rfl, Or.inl rfl, Or.inl rfl, trivial⟩, rfl, rfl, rfl⟩)⟩, ry55, ?_⟩
        refine ⟨?_, ?_⟩
        · refine req_intro rfl ?_
          refine ⟨?_, ?_⟩
          · refine req_intro rfl ?_
            refine ⟨?_, ?_⟩
            · refine rqn_intro 4 ?_
              exact req_intro rfl h
            · refine rqn_intro 4 ?_
              exact req_intro rfl h
          · refine req_intro rfl ?_
            refine ⟨?_, ?_⟩
            · refine rqn_intro 4 ?_
              exact req_intro rfl h
            · refine rqn_intro 4 ?_
              exact req_intro rfl h
        · refine rqn_intro 2 ?_
          refine ⟨?_, ?_⟩
          · refine rqn_intro 4 ?_
            exact req_intro rfl h
          · refine rqn_intro 4 ?_
            exact req_intro rfl h
    · refine req_intro rfl ?_
      refine ⟨?_, ?_⟩
      · refine rqn_intro 2 ?_
        refine ex_both h fun y56 h => ?_
        refine rqn_intro 2 ?_
        refine ex_both h fun y57 h => ?_
        refine req_intro rfl ?_
        refine br_both h (fun hb h => ?_) (fun hb h => ?_)
        · refine ⟨?_, ?_⟩
          · refine rqn_intro 4 ?_
            exact req_intro rfl h
          · refine rqn_intro 4 ?_
            exact req_intro rfl h
        · refine rqn_intro 6 ?_
          obtain ⟨y59, ry59, h⟩ := h
          refine ⟨rfl, rfl, (a0, a1, a2, a3, a4, a5, y56, 0), (), y59, rfl, ⟨(), wk_of (Or.inr ⟨⟨Or.inl rfl, Or.inl rfl, Or.inl rfl, Or.inl rfl, Or.inl rfl, Or.inl rfl, Or.inl rfl, Or.inl rfl, trivial⟩, ⟨Or.inl rfl, Or.inl rfl, Or.inl rfl, Or.inl rfl, Or.inl rfl, Or.inl rfl, Or.inl rfl, trivial⟩, rfl, rfl, rfl⟩)⟩, ry59, ?_⟩
          refine ⟨?_, ?_⟩
          · refine req_intro rfl ?_
            refine ⟨?_, ?_⟩
            · refine req_intro rfl ?_
              refine ⟨?_, ?_⟩
              · refine rqn_intro 4 ?_
                exact req_intro rfl h
              · refine rqn_intro 4 ?_
                exact req_intro rfl h
            · refine req_intro rfl ?_
              refine ⟨?_, ?_⟩
              · refine rqn_intro 4 ?_
                exact req_intro rfl h
              · refine rqn_intro 4 ?_
                exact req_intro rfl h
          · refine rqn_intro 2 ?_
            refine ⟨?_, ?_⟩
            · refine rqn_intro 4 ?_
              exact req_intro rfl h
            · refine rqn_intro 4 ?_
              exact req_intro rfl h
      · refine req_intro rfl ?_
        refine ex_both h fun y60 h => ?_
        refine rqn_intro 3 ?_
        refine ex_both h fun y61 h => ?_
        refine req_intro rfl ?_
        refine br_both h (fun hb h => ?_) (fun hb h => ?_)
        · refine ⟨?_, ?_⟩
          · refine rqn_intro 4 ?_
            exact req_intro rfl h
          · refine rqn_intro 4 ?_
            exact req_intro rfl h
        · refine rqn_intro 6 ?_
          obtain ⟨y63, ry63, h⟩ := h
          refine ⟨rfl, rfl, (a0, a1, a2, a3, a4, a5, y60, 0), (), y63, rfl, ⟨(), wk_of (Or.inr ⟨⟨Or.inl rfl, Or.inl rfl, Or.inl rfl, Or.inl rfl, Or.inl rfl, Or.inl rfl, Or.inl rfl, Or.inl rfl, trivial⟩, ⟨Or.inl rfl, Or.inl rfl, Or.inl rfl, Or.inl rfl, Or.inl rfl, Or.inl rfl, Or.inl rfl, trivial⟩, rfl, rfl, rfl⟩)⟩, ry63, ?_⟩
          refine ⟨?_, ?_⟩
          · refine req_intro rfl ?_
            refine ⟨?_, ?_⟩
            · refine req_intro rfl ?_
              refine ⟨?_, ?_⟩
              · refine rqn_intro 4 ?_
                exact req_intro rfl h
              · refine rqn_intro 4 ?_
                exact req_intro rfl h
            · refine req_intro rfl ?_
              refine ⟨?_, ?_⟩
              · refine rqn_intro 4 ?_
                exact req_intro rfl h
              · refine rqn_intro 4 ?_
                exact req_intro rfl h
          · refine rqn_intro 2 ?_
            refine ⟨?_, ?_⟩
            · refine rqn_intro 4 ?_
              exact req_intro rfl h
            · refine rqn_intro 4 ?_
              exact req_intro rfl h
theorem next_Last_ok : FxOk Tryd.prog gsT 18 (.cons (.agg (.cons (.int .u64) (.cons (.int .u64) (.cons (.int .u64) (.cons (.int .u64) (.one (.int .u64))))))) (.one (.int .i64))) (.tup (.cons (.int .i64) (.one .bool))) fun x y => next_Last_R (x.1.1) (x.1.2.1) (x.1.2.2.1) (x.1.2.2.2.1) (x.1.2.2.2.2) (x.2) y := fx_of (c := q18_cx) (ty_ok rfl) (eq_ok rfl) q18_fns follows_ok (ok := okT) (lp := q18_lp) (n := 60) q18_lpok (enters Tryd.func18 (by kernel_rfl) rfl) (fun y => ⟨_, rfl⟩) fun x y h => q18_run _ _ _ _ _ _ y h
noncomputable def q36_cx : Cx := ⟨tyT, [(36, .body Tryd.f36)], gsT, eqT⟩
theorem q36_fns : FnsOk Tryd.prog q36_cx := Fns_assoc ⟨body_ent Tryd.func36 (by kernel_rfl) (by kernel_rfl), trivial⟩
def curfewlaw08_leap_R (y : Int × Int × Int × Int × Int) : Prop :=
  ((1, (1, (536870912, (4, 127)))) = y)
theorem q36_tree (y : Int × Int × Int × Int × Int) : acall q36_cx okT lpT 60 (.fn 36 [] []) [] [] (leafK (.agg (.cons (.int .u64) (.cons (.int .u64) (.cons (.int .u64) (.cons (.int .u64) (.one (.int .u64))))))) y) =
    (req true (req true ((1, (1, (536870912, (4, 127)))) = y))) := by kernel_rfl
theorem q36_run (y : Int × Int × Int × Int × Int) (h : curfewlaw08_leap_R y) : acall q36_cx okT lpT 60 (.fn 36 [] []) [] [] (leafK (.agg (.cons (.int .u64) (.cons (.int .u64) (.cons (.int .u64) (.cons (.int .u64) (.one (.int .u64))))))) y) := by
  refine cast (q36_tree y).symm ?_
  unfold curfewlaw08_leap_R at h
  refine req_intro rfl ?_
  exact req_intro rfl h
theorem curfewlaw08_leap_ok : FxOk Tryd.prog gsT 36 (.one .none) (.agg (.cons (.int .u64) (.cons (.int .u64) (.cons (.int .u64) (.cons (.int .u64) (.one (.int .u64))))))) fun x y => curfewlaw08_leap_R y := fx_of (c := q36_cx) (ty_ok rfl) (eq_ok rfl) q36_fns follows_ok (ok := okT) (lp := lpT) (n := 60) lp_ok (enters Tryd.func36 (by kernel_rfl) rfl) (fun y => ⟨_, rfl⟩) fun x y h => q36_run y h
noncomputable def q12_cx : Cx := ⟨tyT, [(12, .body Tryd.f12),
  (13, .fx (.cons (.agg (.cons (.int .u64) (.cons (.int .u64) (.cons (.int .u64) (.cons (.int .u64) (.one (.int .u64))))))) (.cons (.agg (.cons (.int .i64) (.one (.int .i64)))) (.one (.int .i64)))) (.tup (.cons (.nw (.int .i64) 2) (.one (.int .i64)))) fun x y => next_Some_R (x.1.1) (x.1.2.1) (x.1.2.2.1) (x.1.2.2.2.1) (x.1.2.2.2.2) (x.2.1.1) (x.2.1.2) (x.2.2) y),
  (16, .fx (.cons (.sl (.int .i64)) (.one (.sl (.int .i64)))) .bool fun x y => slices_Equal__int64_int64_R (x.1) (x.2) y),
  (17, .fx (.cons (.agg (.cons (.int .u64) (.cons (.int .u64) (.cons (.int .u64) (.cons (.int .u64) (.one (.int .u64))))))) (.one (.int .i64))) (.tup (.cons (.int .i64) (.one .bool))) fun x y => next_Next_R (x.1.1) (x.1.2.1) (x.1.2.2.1) (x.1.2.2.2.1) (x.1.2.2.2.2) (x.2) y),
  (18, .fx (.cons (.agg (.cons (.int .u64) (.cons (.int .u64) (.cons (.int .u64) (.cons (.int .u64) (.one (.int .u64))))))) (.one (.int .i64))) (.tup (.cons (.int .i64) (.one .bool))) fun x y => next_Last_R (x.1.1) (x.1.2.1) (x.1.2.2.1) (x.1.2.2.2.1) (x.1.2.2.2.2) (x.2) y),
  (36, .fx (.one .none) (.agg (.cons (.int .u64) (.cons (.int .u64) (.cons (.int .u64) (.cons (.int .u64) (.one (.int .u64))))))) fun x y => curfewlaw08_leap_R y)], gsT, eqT⟩
theorem q12_fns : FnsOk Tryd.prog q12_cx := Fns_assoc ⟨body_ent Tryd.func12 (by kernel_rfl) (by kernel_rfl), next_Some_ok, slices_Equal__int64_int64_ok, next_Next_ok, next_Last_ok, curfewlaw08_leap_ok, trivial⟩
def curfewlaw08_wakes_R (y : Bool) : Prop :=
  (∃ y1 : Int × Int × Int × Int × Int, (curfewlaw08_leap_R y1) ∧ (∃ y2 : Int × Bool, (next_Next_R (y1.1) ((y1.2).1) (((y1.2).2).1) ((((y1.2).2).2).1) ((((y1.2).2).2).2) 3981312000 y2) ∧ (∃ y3 : Int × Int × Int × Int × Int, (curfewlaw08_leap_R y3) ∧ (∃ y4 : Int × Bool, (next_Last_R (y3.1) ((y3.2).1) (((y3.2).2).1) ((((y3.2).2).2).1) ((((y3.2).2).2).2) (IntKind.wrap .i64 ((y2.1) - 1)) y4) ∧ (∃ y5 : List Int × Int, (next_Some_R 32769 16777215 4294967294 8190 127 0 3600 9 y5) ∧ (br (y2.2) (br (y4.2) (br ((y5.2) == 0) (br ((y2.1) == 4233686400) (br ((y4.1) == 3981312000) (∃ y7 : Bool, (slices_Equal__int64_int64_R (y5.1) [900, 3600] y7) ∧ (y7 = y)) (false = y)) (false = y)) (false = y)) (false = y)) (false = y)))))))
theorem q12_tree (y : Bool) : acall q12_cx okT lpT 60 (.fn 12 [] []) [] [] (leafK .bool y) =
    (rqn 2 (∃ y1 : Int × Int × Int × Int × Int, (curfewlaw08_leap_R y1) ∧ (req true (∃ y2 : Int × Bool, (next_Next_R (y1.1) ((y1.2).1) (((y1.2).2).1) ((((y1.2).2).2).1) ((((y1.2).2).2).2) 3981312000 y2) ∧ (rqn 6 (∃ y3 : Int × Int × Int × Int × Int, (curfewlaw08_leap_R y3) ∧ (rqn 3 (∃ y4 : Int × Bool, (next_Last_R (y3.1) ((y3.2).1) (((y3.2).2).1) ((((y3.2).2).2).1) ((((y3.2).2).2).2) (wI ((y2.1) - 1)) y4) ∧ (rqn 8 (∃ y5 : List Int × Int, (next_Some_R 32769 16777215 4294967294 8190 127 0 3600 9 y5) ∧ (∀ c6 : Nat, (rqn 7 (br (y2.2) (rqn 3 (br (y4.2) (rqn 4 (br ((y5.2) == 0) (rqn 4 (br ((y2.1) == 4233686400) (rqn 4 (br ((y4.1) == 3981312000) (req true (req ((Nat.beq (List.length (y5.1)) (List.length (y5.1))) && true) (∃ y7 : Bool, (slices_Equal__int64_int64_R (y5.1) [900, 3600] y7) ∧ (rqn 2 (req true (y7 = y)))))) (rqn 2 (req true (false = y))))) (rqn 4 (req true (false = y))))) (rqn 6 (req true (false = y))))) (rqn 8 (req true (false = y))))) (rqn 10 (req true (false = y)))))))))))))))) := by kernel_rfl
theorem q12_run (y : Bool) (h : curfewlaw08_wakes_R y) : acall q12_cx okT lpT 60 (.fn 12 [] []) [] [] (leafK .bool y) := by
  refine cast (q12_tree y).symm ?_
  unfold curfewlaw08_wakes_R at h
  refine rqn_intro 2 ?_
  refine ex_both h fun y1 h => ?_
  refine req_intro rfl ?_
  refine ex_both h fun y2 h => ?_
  refine rqn_intro 6 ?_
  refine ex_both h fun y3 h => ?_
  refine rqn_intro 3 ?_
  refine ex_both h fun y4 h => ?_
  refine rqn_intro 8 ?_
  refine ex_both h fun y5 h => ?_
  intro c6
  refine rqn_intro 7 ?_
  refine br_both h (fun hb h => ?_) (fun hb h => ?_)
  · refine rqn_intro 3 ?_
    refine br_both h (fun hb h => ?_) (fun hb h => ?_)
    · refine rqn_intro 4 ?_
      refine br_both h (fun hb h => ?_) (fun hb h => ?_)
      · refine rqn_intro 4 ?_
        refine br_both h (fun hb h => ?_) (fun hb h => ?_)
        · refine rqn_intro 4 ?_
          refine br_both h (fun hb h => ?_) (fun hb h => ?_)
          · refine req_intro rfl ?_
            refine req_intro (band (Nat.beq_refl _) rfl) ?_
            refine ex_both h fun y7 h => ?_
            refine rqn_intro 2 ?_
            exact req_intro rfl h
          · refine rqn_intro 2 ?_
            exact req_intro rfl h
        · refine rqn_intro 4 ?_
          exact req_intro rfl h
      · refine rqn_intro 6 ?_
        exact req_intro rfl h
    · refine rqn_intro 8 ?_
      exact req_intro rfl h
  · refine rqn_intro 10 ?_
    exact req_intro rfl h
theorem curfewlaw08_wakes_ok : FxOk Tryd.prog gsT 12 (.one .none) .bool fun x y => curfewlaw08_wakes_R y := fx_of (c := q12_cx) (ty_ok rfl) (eq_ok rfl) q12_fns follows_ok (ok := okT) (lp := lpT) (n := 60) lp_ok (enters Tryd.func12 (by kernel_rfl) rfl) (fun y => ⟨_, rfl⟩) fun x y h => q12_run y h
noncomputable def q21_cx : Cx := ⟨tyT, [(17, .fx (.cons (.agg (.cons (.int .u64) (.cons (.int .u64) (.cons (.int .u64) (.cons (.int .u64) (.one (.int .u64))))))) (.one (.int .i64))) (.tup (.cons (.int .i64) (.one .bool))) fun x y => next_Next_R (x.1.1) (x.1.2.1) (x.1.2.2.1) (x.1.2.2.2.1) (x.1.2.2.2.2) (x.2) y),
  (21, .body Tryd.f21)], gsT, eqT⟩
theorem q21_fns : FnsOk Tryd.prog q21_cx := Fns_assoc ⟨next_Next_ok, body_ent Tryd.func21 (by kernel_rfl) (by kernel_rfl), trivial⟩
def next_Ever_R (a0 : Int) (a1 : Int) (a2 : Int) (a3 : Int) (a4 : Int) (y : Bool) : Prop :=
  (∃ y1 : Int × Bool, (next_Next_R a0 a1 a2 a3 a4 (-1) y1) ∧ ((y1.2) = y))
theorem q21_tree (a0 : Int) (a1 : Int) (a2 : Int) (a3 : Int) (a4 : Int) (y : Bool) : acall q21_cx okT lpT 60 (.fn 21 [] []) [(V.agg [(V.int .u64 a0), (V.int .u64 a1), (V.int .u64 a2), (V.int .u64 a3), (V.int .u64 a4)])] [] (leafK .bool y) =
    (rqn 3 (∃ y1 : Int × Bool, (next_Next_R a0 a1 a2 a3 a4 (-1) y1) ∧ (rqn 7 (req true ((y1.2) = y))))) := by kernel_rfl
theorem q21_run (a0 : Int) (a1 : Int) (a2 : Int) (a3 : Int) (a4 : Int) (y : Bool) (h : next_Ever_R a0 a1 a2 a3 a4 y) : acall q21_cx okT lpT 60 (.fn 21 [] []) [(V.agg [(V.int .u64 a0), (V.int .u64 a1), (V.int .u64 a2), (V.int .u64 a3), (V.int .u64 a4)])] [] (leafK .bool y) := by
  refine cast (q21_tree a0 a1 a2 a3 a4 y).symm ?_
  unfold next_Ever_R at h
  refine rqn_intro 3 ?_
  refine ex_both h fun y1 h => ?_
  refine rqn_intro 7 ?_
  exact req_intro rfl h
theorem next_Ever_ok : FxOk Tryd.prog gsT 21 (.one (.agg (.cons (.int .u64) (.cons (.int .u64) (.cons (.int .u64) (.cons (.int .u64) (.one (.int .u64)))))))) .bool fun x y => next_Ever_R (x.1) (x.2.1) (x.2.2.1) (x.2.2.2.1) (x.2.2.2.2) y := fx_of (c := q21_cx) (ty_ok rfl) (eq_ok rfl) q21_fns follows_ok (ok := okT) (lp := lpT) (n := 60) lp_ok (enters Tryd.func21 (by kernel_rfl) rfl) (fun y => ⟨_, rfl⟩) fun x y h => q21_run _ _ _ _ _ y h
noncomputable def q58_cx : Cx := ⟨tyT, [(58, .body Tryd.f58)], gsT, eqT⟩
theorem q58_fns : FnsOk Tryd.prog q58_cx := Fns_assoc ⟨body_ent Tryd.func58 (by kernel_rfl) (by kernel_rfl), trivial⟩
def times_May_R (a0 : Int) (y : Bool) : Prop :=
  (br (decide (a0 ≥ 0)) ((decide (a0 ≤ 253402300799)) = y) (false = y))
theorem q58_tree (a0 : Int) (y : Bool) : acall q58_cx okT lpT 60 (.fn 58 [] []) [(V.int .i64 a0)] [] (leafK .bool y) =
    (rqn 4 (br (decide (a0 ≥ 0)) (rqn 4 (req true ((decide (a0 ≤ 253402300799)) = y))) (rqn 2 (req true (false = y))))) := by kernel_rfl
theorem q58_run (a0 : Int) (y : Bool) (h : times_May_R a0 y) : acall q58_cx okT lpT 60 (.fn 58 [] []) [(V.int .i64 a0)] [] (leafK .bool y) := by
  refine cast (q58_tree a0 y).symm ?_
  unfold times_May_R at h
  refine rqn_intro 4 ?_
  refine br_both h (fun hb h => ?_) (fun hb h => ?_)
  · refine rqn_intro 4 ?_
    exact req_intro rfl h
  · refine rqn_intro 2 ?_
    exact req_intro rfl h
theorem times_May_ok : FxOk Tryd.prog gsT 58 (.one (.int .i64)) .bool fun x y => times_May_R x y := fx_of (c := q58_cx) (ty_ok rfl) (eq_ok rfl) q58_fns follows_ok (ok := okT) (lp := lpT) (n := 60) lp_ok (enters Tryd.func58 (by kernel_rfl) rfl) (fun y => ⟨_, rfl⟩) fun x y h => q58_run _ y h
noncomputable def q51_cx : Cx := ⟨tyT, [(51, .body Tryd.f51),
  (58, .fx (.one (.int .i64)) .bool fun x y => times_May_R x y),
  (84, .fx (.one (.int .i64)) (.tup (.cons (.agg (.cons (.int .i64) (.cons (.int .i64) (.one (.int .i64))))) (.one (.int .i64)))) fun x y => days_At_R x y)], gsT, eqT⟩
theorem q51_fns : FnsOk Tryd.prog q51_cx := Fns_assoc ⟨body_ent Tryd.func51 (by kernel_rfl) (by kernel_rfl), times_May_ok, days_At_ok, trivial⟩
def times_At_R (a0 : Int) (y : (Int × Int × Int × Int × Int × Int) × Int) : Prop :=
  (∃ y1 : Bool, (times_May_R a0 y1) ∧ (br (!y1) (((0, (0, (0, (0, (0, 0))))), 2) = y) (∃ y2 : (Int × Int × Int) × Int, (days_At_R (IntKind.wrap .i64 (Int.tdiv a0 86400)) y2) ∧ (br ((y2.2) != 0) (((0, (0, (0, (0, (0, 0))))), (y2.2)) = y) (((((y2.1).1), ((((y2.1).2).1), ((((y2.1).2).2), ((IntKind.wrap .i64 (Int.tdiv (Int.tmod a0 86400) 3600)), ((IntKind.wrap .i64 (Int.tdiv (Int.tmod (Int.tmod a0 86400) 3600) 60)), (Int.tmod (Int.tmod a0 86400) 60)))))), 0) = y)))))
theorem q51_tree (a0 : Int) (y : (Int × Int × Int × Int × Int × Int) × Int) : acall q51_cx okT lpT 60 (.fn 51 [] []) [(V.int .i64 a0)] [] (leafK (.tup (.cons (.agg (.cons (.int .i64) (.cons (.int .i64) (.cons (.int .i64) (.cons (.int .i64) (.cons (.int .i64) (.one (.int .i64)))))))) (.one (.int .i64)))) y) =
    (rqn 3 (∃ y1 : Bool, (times_May_R a0 y1) ∧ (req true (br (!y1) (rqn 2 (req true (((0, (0, (0, (0, (0, 0))))), 2) = y))) (rqn 3 (∃ y2 : (Int × Int × Int) × Int, (days_At_R (wI (Int.tdiv a0 86400)) y2) ∧ (rqn 6 (br ((y2.2) != 0) (rqn 3 (req true (((0, (0, (0, (0, (0, 0))))), (y2.2)) = y))) (rqn 13 (req true (((((y2.1).1), ((((y2.1).2).1), ((((y2.1).2).2), ((wI (Int.tdiv (Int.tmod a0 86400) 3600)), ((wI (Int.tdiv (Int.tmod (Int.tmod a0 86400) 3600) 60)), (Int.tmod (Int.tmod a0 86400) 60)))))), 0) = y))))))))))) := by kernel_rfl
theorem q51_run (a0 : Int) (y : (Int × Int × Int × Int × Int × Int) × Int) (h : times_At_R a0 y) : acall q51_cx okT lpT 60 (.fn 51 [] []) [(V.int .i64 a0)] [] (leafK (.tup (.cons (.agg (.cons (.int .i64) (.cons (.int .i64) (.cons (.int .i64) (.cons (.int .i64) (.cons (.int .i64) (.one (.int .i64)))))))) (.one (.int .i64)))) y) := by
  refine cast (q51_tree a0 y).symm ?_
  unfold times_At_R at h
  refine rqn_intro 3 ?_
  refine ex_both h fun y1 h => ?_
  refine req_intro rfl ?_
  refine br_both h (fun hb h => ?_) (fun hb h => ?_)
  · refine rqn_intro 2 ?_
    exact req_intro rfl h
  · refine rqn_intro 3 ?_
    refine ex_both h fun y2 h => ?_
    refine rqn_intro 6 ?_
    refine br_both h (fun hb h => ?_) (fun hb h => ?_)
    · refine rqn_intro 3 ?_
      exact req_intro rfl h
    · refine rqn_intro 13 ?_
      exact req_intro rfl h
theorem times_At_ok : FxOk Tryd.prog gsT 51 (.one (.int .i64)) (.tup (.cons (.agg (.cons (.int .i64) (.cons (.int .i64) (.cons (.int .i64) (.cons (.int .i64) (.cons (.int .i64) (.one (.int .i64)))))))) (.one (.int .i64)))) fun x y => times_At_R x y := fx_of (c := q51_cx) (ty_ok rfl) (eq_ok rfl) q51_fns follows_ok (ok := okT) (lp := lpT) (n := 60) lp_ok (enters Tryd.func51 (by kernel_rfl) rfl) (fun y => ⟨_, rfl⟩) fun x y h => q51_run _ y h
noncomputable def q24_cx : Cx := ⟨tyT, [(24, .body Tryd.f24),
  (51, .fx (.one (.int .i64)) (.tup (.cons (.agg (.cons (.int .i64) (.cons (.int .i64) (.cons (.int .i64) (.cons (.int .i64) (.cons (.int .i64) (.one (.int .i64)))))))) (.one (.int .i64)))) fun x y => times_At_R x y),
  (52, .fx (.cons (.agg (.cons (.int .u64) (.cons (.int .u64) (.cons (.int .u64) (.cons (.int .u64) (.one (.int .u64))))))) (.one (.agg (.cons (.int .i64) (.cons (.int .i64) (.one (.int .i64))))))) .bool fun x y => cron_Day_R (x.1.1) (x.1.2.1) (x.1.2.2.1) (x.1.2.2.2.1) (x.1.2.2.2.2) (x.2.1) (x.2.2.1) (x.2.2.2) y),
  (53, .fx (.cons (.int .u64) (.one (.int .i64))) .bool fun x y => mask_Has_R (x.1) (x.2) y)], gsT, eqT⟩
theorem q24_fns : FnsOk Tryd.prog q24_cx := Fns_assoc ⟨body_ent Tryd.func24 (by kernel_rfl) (by kernel_rfl), times_At_ok, cron_Day_ok, mask_Has_ok, trivial⟩
def cron_At_R (a0 : Int) (a1 : Int) (a2 : Int) (a3 : Int) (a4 : Int) (a5 : Int) (y : Bool) : Prop :=
  (∃ y1 : (Int × Int × Int × Int × Int × Int) × Int, (times_At_R a5 y1) ∧ (br ((y1.2) == 0) (br (((((((y1.1).2).2).2).2).2) == 0) (∃ y2 : Bool, (cron_Day_R a0 a1 a2 a3 a4 ((y1.1).1) (((y1.1).2).1) ((((y1.1).2).2).1) y2) ∧ (br y2 (∃ y3 : Bool, (mask_Has_R a1 (((((y1.1).2).2).2).1) y3) ∧ (br y3 (∃ y4 : Bool, (mask_Has_R a0 ((((((y1.1).2).2).2).2).1) y4) ∧ (y4 = y)) (false = y))) (false = y))) (false = y)) (false = y)))
theorem q24_tree (a0 : Int) (a1 : Int) (a2 : Int) (a3 : Int) (a4 : Int) (a5 : Int) (y : Bool) : acall q24_cx okT lpT 60 (.fn 24 [] []) [(V.agg [(V.int .u64 a0), (V.int .u64 a1), (V.int .u64 a2), (V.int .u64 a3), (V.int .u64 a4)]), (V.int .i64 a5)] [] (leafK .bool y) =
    (rqn 3 (∃ y1 : (Int × Int × Int × Int × Int × Int) × Int, (times_At_R a5 y1) ∧ (rqn 7 (br ((y1.2) == 0) (rqn 5 (br (((((((y1.1).2).2).2).2).2) == 0) (rqn 4 (∃ y2 : Bool, (cron_Day_R a0 a1 a2 a3 a4 ((y1.1).1) (((y1.1).2).1) ((((y1.1).2).2).1) y2) ∧ (rqn 2 (br y2 (rqn 5 (∃ y3 : Bool, (mask_Has_R a1 (((((y1.1).2).2).2).1) y3) ∧ (rqn 2 (br y3 (rqn 5 (∃ y4 : Bool, (mask_Has_R a0 ((((((y1.1).2).2).2).2).1) y4) ∧ (rqn 2 (req true (y4 = y))))) (rqn 2 (req true (false = y))))))) (rqn 4 (req true (false = y))))))) (rqn 6 (req true (false = y))))) (rqn 8 (req true (false = y))))))) := by kernel_rfl
theorem q24_run (a0 : Int) (a1 : Int) (a2 : Int) (a3 : Int) (a4 : Int) (a5 : Int) (y : Bool) (h : cron_At_R a0 a1 a2 a3 a4 a5 y) : acall q24_cx okT lpT 60 (.fn 24 [] []) [(V.agg [(V.int .u64 a0), (V.int .u64 a1), (V.int .u64 a2), (V.int .u64 a3), (V.int .u64 a4)]), (V.int .i64 a5)] [] (leafK .bool y) := by
  refine cast (q24_tree a0 a1 a2 a3 a4 a5 y).symm ?_
  unfold cron_At_R at h
  refine rqn_intro 3 ?_
  refine ex_both h fun y1 h => ?_
  refine rqn_intro 7 ?_
  refine br_both h (fun hb h => ?_) (fun hb h => ?_)
  · refine rqn_intro 5 ?_
    refine br_both h (fun hb h => ?_) (fun hb h => ?_)
    · refine rqn_intro 4 ?_
      refine ex_both h fun y2 h => ?_
      refine rqn_intro 2 ?_
      refine br_both h (fun hb h => ?_) (fun hb h => ?_)
      · refine rqn_intro 5 ?_
        refine ex_both h fun y3 h => ?_
        refine rqn_intro 2 ?_
        refine br_both h (fun hb h => ?_) (fun hb h => ?_)
        · refine rqn_intro 5 ?_
          refine ex_both h fun y4 h => ?_
          refine rqn_intro 2 ?_
          exact req_intro rfl h
        · refine rqn_intro 2 ?_
          exact req_intro rfl h
      · refine rqn_intro 4 ?_
        exact req_intro rfl h
    · refine rqn_intro 6 ?_
      exact req_intro rfl h
  · refine rqn_intro 8 ?_
    exact req_intro rfl h
theorem cron_At_ok : FxOk Tryd.prog gsT 24 (.cons (.agg (.cons (.int .u64) (.cons (.int .u64) (.cons (.int .u64) (.cons (.int .u64) (.one (.int .u64))))))) (.one (.int .i64))) .bool fun x y => cron_At_R (x.1.1) (x.1.2.1) (x.1.2.2.1) (x.1.2.2.2.1) (x.1.2.2.2.2) (x.2) y := fx_of (c := q24_cx) (ty_ok rfl) (eq_ok rfl) q24_fns follows_ok (ok := okT) (lp := lpT) (n := 60) lp_ok (enters Tryd.func24 (by kernel_rfl) rfl) (fun y => ⟨_, rfl⟩) fun x y h => q24_run _ _ _ _ _ _ y h
end Go.Proofs.YtiffoefhadgdnaaDoor
