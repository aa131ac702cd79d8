/- What Go functions come to (printed by gb.py). -/
import Derived.Test.YtiffoefhadgdnaaDoorGxa
namespace Go.Proofs.YtiffoefhadgdnaaDoor
open Go Go.B Go.RowKit
set_option linter.unusedVariables false
set_option linter.unusedSimpArgs false
set_option maxRecDepth 100000
attribute [local irreducible] Go.B.acall Go.B.acode
theorem q56_run (a0 : Int) (a1 : Bool) (a2 : Int) (a3 : Int) (a4 : Int) (a5 : Int) (a6 : Int) (a7 : Int) (a8 : Int) (a9 : Int) (a10 : Int) (a11 : Bool) (a12 : Int) (a13 : Int) (a14 : Int) (a15 : Int) (a16 : List Int) (y : List Int) (h : table_line_R a0 a1 a2 a3 a4 a5 a6 a7 a8 a9 a10 a11 a12 a13 a14 a15 a16 y) : acall q56_cx okT lpT 60 (.fn 56 [] []) [(V.agg [(V.int .u32 a0), (V.bool a1), (V.int .u64 a2), (V.int .u64 a3), (V.int .u64 a4), (V.int .u64 a5), (V.int .u64 a6), (V.int .i64 a7), (V.int .i64 a8), (V.int .i64 a9), (V.int .i64 a10), (V.bool a11), (V.int .i64 a12), (V.int .u64 a13), (V.int .i64 a14), (V.int .i64 a15), (V.sl (.int .i64) a16 none)])] [] (leafK (.nw (.int .i64) 2) y) := by
  refine cast (q56_tree a0 a1 a2 a3 a4 a5 a6 a7 a8 a9 a10 a11 a12 a13 a14 a15 a16 y).symm ?_
  unfold table_line_R at h
  refine rqn_intro 6 ?_
  refine br_both h (fun hb h => ?_) (fun hb h => ?_)
  · refine rqn_intro 5 ?_
    intro c1 hc1
    refine rqn_intro 4 ?_
    obtain ⟨q, h⟩ := req_of h
    refine req_intro (band (band (band rfl rfl) (Nat.beq_refl _)) q) ?_
    intro c2 hc2
    refine rqn_intro 4 ?_
    refine br_both h (fun hb h => ?_) (fun hb h => ?_)
    · refine rqn_intro 3 ?_
      obtain ⟨q, h⟩ := req_of h
      refine req_intro (band (band (band (band (band rfl rfl) rfl) (Nat.beq_refl _)) (Nat.beq_refl _)) q) ?_
      intro c3 hc3
      refine rqn_intro 3 ?_
      exact req_intro (band rfl (band (Nat.beq_refl _) (Nat.beq_refl _))) h
    · refine rqn_intro 2 ?_
      exact req_intro (band rfl (band (Nat.beq_refl _) (Nat.beq_refl _))) h
  · refine rqn_intro 3 ?_
    obtain ⟨q, h⟩ := req_of h
    refine req_intro (band rfl q) ?_
    intro c4 hc4
    refine rqn_intro 4 ?_
    refine br_both h (fun hb h => ?_) (fun hb h => ?_)
    · refine rqn_intro 3 ?_
      obtain ⟨q, h⟩ := req_of h
      refine req_intro (band (band (band (band (band rfl rfl) rfl) (Nat.beq_refl _)) (Nat.beq_refl _)) q) ?_
      intro c5 hc5
      refine rqn_intro 3 ?_
      exact req_intro (band rfl (band (Nat.beq_refl _) (Nat.beq_refl _))) h
    · refine rqn_intro 2 ?_
      exact req_intro (band rfl (band (Nat.beq_refl _) (Nat.beq_refl _))) h
theorem table_line_ok : FxOk Tryd.prog gsT 56 (.one (.agg (.cons (.int .u32) (.cons .bool (.cons (.int .u64) (.cons (.int .u64) (.cons (.int .u64) (.cons (.int .u64) (.cons (.int .u64) (.cons (.int .i64) (.cons (.int .i64) (.cons (.int .i64) (.cons (.int .i64) (.cons .bool (.cons (.int .i64) (.cons (.int .u64) (.cons (.int .i64) (.cons (.int .i64) (.one (.sl (.int .i64))))))))))))))))))))) (.nw (.int .i64) 2) fun x y => table_line_R (x.1) (x.2.1) (x.2.2.1) (x.2.2.2.1) (x.2.2.2.2.1) (x.2.2.2.2.2.1) (x.2.2.2.2.2.2.1) (x.2.2.2.2.2.2.2.1) (x.2.2.2.2.2.2.2.2.1) (x.2.2.2.2.2.2.2.2.2.1) (x.2.2.2.2.2.2.2.2.2.2.1) (x.2.2.2.2.2.2.2.2.2.2.2.1) (x.2.2.2.2.2.2.2.2.2.2.2.2.1) (x.2.2.2.2.2.2.2.2.2.2.2.2.2.1) (x.2.2.2.2.2.2.2.2.2.2.2.2.2.2.1) (x.2.2.2.2.2.2.2.2.2.2.2.2.2.2.2.1) (x.2.2.2.2.2.2.2.2.2.2.2.2.2.2.2.2) y := fx_of (c := q56_cx) (ty_ok rfl) (eq_ok rfl) q56_fns follows_ok (ok := okT) (lp := lpT) (n := 60) lp_ok (enters Tryd.func56 (by kernel_rfl) rfl) (fun y => ⟨_, rfl⟩) fun x y h => q56_run _ _ _ _ _ _ _ _ _ _ _ _ _ _ _ _ _ y h
noncomputable def q57_cx : Cx := ⟨tyT, [(57, .body Tryd.f57)], gsT, eqT⟩
theorem q57_fns : FnsOk Tryd.prog q57_cx := Fns_assoc ⟨body_ent Tryd.func57 (by kernel_rfl) (by kernel_rfl), trivial⟩
noncomputable def q57_0_body : Code := subC [1, 0, 1, 0, 0] (bodyOf Tryd.f57)
abbrev table_rise_l0_Z : Type := List Int × Int
abbrev table_rise_l0_Y : Type := (Unit) ⊕ (Unit)
abbrev q57_0_C : Type := Unit
abbrev q57_0_Q : Type := Unit
noncomputable def q57_0_st (z1 : table_rise_l0_Z) (z1q : q57_0_Q) (z1c : q57_0_C) : S := ⟨[(0, (V.sl (.int .i64) (z1.1) none)), (3, (vi (z1.2)))], [], []⟩
def q57_0_Kp (K : Ret → S → Prop) (z1q : q57_0_Q) (y2 : table_rise_l0_Y) : Prop := sume (fun y2 => K .ret ⟨[(2, (vb false))], [], []⟩) (fun y2 => K (.exit 0) ⟨[], [], []⟩) y2
def q57_0_K (K : Ret → S → Prop) (z1 : table_rise_l0_Z) (z1q : q57_0_Q) (y2 : table_rise_l0_Y) : Prop := q57_0_Kp K z1q y2
def table_rise_l0 : Nat → table_rise_l0_Z → table_rise_l0_Y → Prop
  | 0, _, _ => False
  | k + 1, (z1x0, z1x1), y2_ => (br (decide (z1x1 < (((List.length z1x0) : Nat) : Int))) (req ((decide (0 ≤ (IntKind.wrap .i64 (z1x1 - 1)))) && (decide ((IntKind.wrap .i64 (z1x1 - 1)) < (((List.length z1x0) : Nat) : Int)))) (req ((decide (0 ≤ z1x1)) && (decide (z1x1 < (((List.length z1x0) : Nat) : Int)))) (br (decide ((List.getD z1x0 (Int.toNat (IntKind.wrap .i64 (z1x1 - 1))) 0) ≥ (List.getD z1x0 (Int.toNat z1x1) 0))) ((Sum.inl ()) = y2_) (table_rise_l0 k (z1x0, (IntKind.wrap .i64 (z1x1 + 1))) y2_)))) ((Sum.inr ()) = y2_))
def table_rise_l0_L (z : table_rise_l0_Z) (y : table_rise_l0_Y) : Prop := ∃ k, table_rise_l0 k z y
noncomputable def q57_0_lp : Lp := .auto none q57_0_body (loopG 0 q57_0_st (fun z y => ∃ k, table_rise_l0 k z y) q57_0_K)
noncomputable def q57_lp : Nat → FuncId → Nat → Nat → Lp := lpTab [(57, 2, 0, 0, q57_0_lp)]
theorem q57_0_round (n : Nat) (z1x0 : List Int) (z1x1 : Int) (K : Ret → S → Prop) (next : S → Prop) : acode q57_cx 57 (acall q57_cx okT q57_lp (n + 0)) (okT 57) (q57_lp (n + 0) 57) none q57_0_body (iterK (wkK 0 K) next) (q57_0_st (z1x0, z1x1) () ()) =
    (rqn 4 (br (decide (z1x1 < (((List.length z1x0) : Nat) : Int))) (rqn 4 (req ((decide (0 ≤ (wI (z1x1 - 1)))) && (decide ((wI (z1x1 - 1)) < (((List.length z1x0) : Nat) : Int)))) (rqn 3 (req ((decide (0 ≤ z1x1)) && (decide (z1x1 < (((List.length z1x0) : Nat) : Int)))) (rqn 2 (br (decide ((List.getD z1x0 (Int.toNat (wI (z1x1 - 1))) 0) ≥ (List.getD z1x0 (Int.toNat z1x1) 0))) (req true (wkK 0 K .ret ⟨[(0, (V.sl (.int .i64) z1x0 none)), (3, (vi z1x1)), (7, (vb (decide (z1x1 < (((List.length z1x0) : Nat) : Int))))), (19, (vb (decide ((List.getD z1x0 (Int.toNat (wI (z1x1 - 1))) 0) ≥ (List.getD z1x0 (Int.toNat z1x1) 0))))), (2, (vb false))], [], []⟩)) (rqn 3 (next ⟨[(0, (V.sl (.int .i64) z1x0 none)), (3, (vi (wI (z1x1 + 1)))), (7, (vb (decide (z1x1 < (((List.length z1x0) : Nat) : Int))))), (19, (vb (decide ((List.getD z1x0 (Int.toNat (wI (z1x1 - 1))) 0) ≥ (List.getD z1x0 (Int.toNat z1x1) 0)))))], [], []⟩)))))))) (wkK 0 K (.exit 0) ⟨[(0, (V.sl (.int .i64) z1x0 none)), (3, (vi z1x1)), (7, (vb (decide (z1x1 < (((List.length z1x0) : Nat) : Int)))))], [], []⟩))) := by kernel_rfl
theorem q57_0_step (n k : Nat) (z1x0 : List Int) (z1x1 : Int) (y2_ : table_rise_l0_Y) (K : Ret → S → Prop) (h : table_rise_l0 (k + 1) (z1x0, z1x1) y2_) (hK : q57_0_Kp K () y2_) (next : S → Prop) (hnext : ∀ z' s', table_rise_l0 k z' y2_ → q57_0_K K z' () y2_ → (∃ cc', wk 0 s' (q57_0_st z' () cc')) → next s') : acode q57_cx 57 (acall q57_cx okT q57_lp (n + 0)) (okT 57) (q57_lp (n + 0) 57) none q57_0_body (iterK (wkK 0 K) next) (q57_0_st (z1x0, z1x1) () ()) := by
  refine cast (q57_0_round n z1x0 z1x1 K next).symm ?_
  simp only [table_rise_l0] at h
  refine rqn_intro 4 ?_
  refine br_both h (fun hb h => ?_) (fun hb h => ?_)
  · refine rqn_intro 4 ?_
    obtain ⟨q, h⟩ := req_of h
    refine req_intro (band (band_l q) (band_r q)) ?_
    refine rqn_intro 3 ?_
    obtain ⟨q, h⟩ := req_of h
    refine req_intro (band (band_l q) (band_r q)) ?_
    refine rqn_intro 2 ?_
    refine br_both h (fun hb h => ?_) (fun hb h => ?_)
    · refine req_intro rfl ?_
      subst h
      refine ⟨_, ?_, hK⟩
      exact wk_of (Or.inr ⟨⟨Or.inl rfl, trivial⟩, trivial, rfl, rfl, rfl⟩)
    · refine rqn_intro 3 ?_
      exact hnext (z1x0, (wI (z1x1 + 1))) _ h hK ⟨(), wk_of (Or.inr ⟨⟨Or.inl rfl, Or.inl rfl, trivial⟩, trivial, rfl, rfl, rfl⟩)⟩
  · subst h
    refine ⟨_, ?_, hK⟩
    exact wk_of (Or.inr ⟨trivial, trivial, rfl, rfl, rfl⟩)
theorem q57_0_ok (n : Nat) : Owed q57_cx okT 57 q57_lp (n + 0) q57_0_lp := loop_owed (fun z y h => h) fun k zz qq cc yy K h hK next hnext => q57_0_step n k zz.1 zz.2 yy K h hK next hnext
theorem q57_lpok : LpOk q57_cx okT q57_lp := LpOk_tab ⟨q57_0_ok, trivial⟩
def table_rise_R (a0 : List Int) (y : Bool) : Prop :=
  (∃ y4 : table_rise_l0_Y, table_rise_l0_L (a0, 1) y4 ∧ sume (fun y4 => (false = y)) (fun y4 => (true = y)) y4)
theorem q57_tree (a0 : List Int) (y : Bool) : acall q57_cx okT q57_lp 60 (.fn 57 [] []) [(V.sl (.int .i64) a0 none)] [] (leafK .bool y) =
    (rqn 2 (((none : Option Nat) = (none : Option Nat)) ∧ (q57_0_body = q57_0_body) ∧ ∃ z3 : table_rise_l0_Z, ∃ z3q : q57_0_Q, ∃ y4 : table_rise_l0_Y, (0 = 0) ∧ (∃ zc : q57_0_C, wk 0 ⟨[(0, (V.sl (.int .i64) a0 none)), (2, (vb false)), (3, (vi 1))], [], []⟩ (q57_0_st z3 z3q zc)) ∧ (∃ k, table_rise_l0 k z3 y4) ∧ sume (fun y4 => (req true (false = y))) (fun y4 => (req true (req true (true = y)))) y4)) := by kernel_rfl
theorem q57_run (a0 : List Int) (y : Bool) (h : table_rise_R a0 y) : acall q57_cx okT q57_lp 60 (.fn 57 [] []) [(V.sl (.int .i64) a0 none)] [] (leafK .bool y) := by
  refine cast (q57_tree a0 y).symm ?_
  unfold table_rise_R at h
  refine rqn_intro 2 ?_
  obtain ⟨y4, ry4, h⟩ := h
  refine ⟨rfl, rfl, (a0, 1), (), y4, rfl, ⟨(), wk_of (Or.inr ⟨⟨Or.inl rfl, Or.inl rfl, trivial⟩, trivial, rfl, rfl, rfl⟩)⟩, ry4, ?_⟩
  refine sume_both h (fun y4 h => ?_) (fun y4 h => ?_)
  · exact req_intro rfl h
  · refine req_intro rfl ?_
    exact req_intro rfl h
theorem table_rise_ok : FxOk Tryd.prog gsT 57 (.one (.sl (.int .i64))) .bool fun x y => table_rise_R x y := fx_of (c := q57_cx) (ty_ok rfl) (eq_ok rfl) q57_fns follows_ok (ok := okT) (lp := q57_lp) (n := 60) q57_lpok (enters Tryd.func57 (by kernel_rfl) rfl) (fun y => ⟨_, rfl⟩) fun x y h => q57_run _ y h
noncomputable def q58_cx : Cx := ⟨tyT, [(58, .body Tryd.f58)], gsT, eqT⟩
theorem q58_fns : FnsOk Tryd.prog q58_cx := Fns_assoc ⟨body_ent Tryd.func58 (by kernel_rfl) (by kernel_rfl), trivial⟩
def times_May_R (a0 : Int) (y : Bool) : Prop :=
  (br (decide (a0 ≥ 0)) ((decide (a0 ≤ 253402300799)) = y) (false = y))
theorem q58_tree (a0 : Int) (y : Bool) : acall q58_cx okT lpT 60 (.fn 58 [] []) [(V.int .i64 a0)] [] (leafK .bool y) =
    (rqn 4 (br (decide (a0 ≥ 0)) (rqn 4 (req true ((decide (a0 ≤ 253402300799)) = y))) (rqn 2 (req true (false = y))))) := by kernel_rfl
theorem q58_run (a0 : Int) (y : Bool) (h : times_May_R a0 y) : acall q58_cx okT lpT 60 (.fn 58 [] []) [(V.int .i64 a0)] [] (leafK .bool y) := by
  refine cast (q58_tree a0 y).symm ?_
  unfold times_May_R at h
  refine rqn_intro 4 ?_
  refine br_both h (fun hb h => ?_) (fun hb h => ?_)
  · refine rqn_intro 4 ?_
    exact req_intro rfl h
  · refine rqn_intro 2 ?_
    exact req_intro rfl h
theorem times_May_ok : FxOk Tryd.prog gsT 58 (.one (.int .i64)) .bool fun x y => times_May_R x y := fx_of (c := q58_cx) (ty_ok rfl) (eq_ok rfl) q58_fns follows_ok (ok := okT) (lp := lpT) (n := 60) lp_ok (enters Tryd.func58 (by kernel_rfl) rfl) (fun y => ⟨_, rfl⟩) fun x y h => q58_run _ y h
noncomputable def q18_cx : Cx := ⟨tyT, [(18, .body Tryd.f18),
  (23, .fx (.one (.agg (.cons (.int .u64) (.cons (.int .u64) (.cons (.int .u64) (.cons (.int .u64) (.one (.int .u64)))))))) (.int .i64) fun x y => cron_Check_R (x.1) (x.2.1) (x.2.2.1) (x.2.2.2.1) (x.2.2.2.2) y),
  (39, .body Tryd.f39),
  (40, .fx (.one (.int .i64)) (.int .i64) fun x y => next_of_R x y),
  (42, .body Tryd.f42),
  (52, .fx (.cons (.agg (.cons (.int .u64) (.cons (.int .u64) (.cons (.int .u64) (.cons (.int .u64) (.one (.int .u64))))))) (.one (.agg (.cons (.int .i64) (.cons (.int .i64) (.one (.int .i64))))))) .bool fun x y => cron_Day_R (x.1.1) (x.1.2.1) (x.1.2.2.1) (x.1.2.2.2.1) (x.1.2.2.2.2) (x.2.1) (x.2.2.1) (x.2.2.2) y),
  (76, .body Tryd.f76),
  (77, .body Tryd.f77),
  (84, .fx (.one (.int .i64)) (.tup (.cons (.agg (.cons (.int .i64) (.cons (.int .i64) (.one (.int .i64))))) (.one (.int .i64)))) fun x y => days_At_R x y),
  (105, .body Tryd.f105),
  (106, .body Tryd.f106),
  (107, .body Tryd.f107),
  (127, .body Tryd.f127),
  (128, .fx (.one (.int .u64)) (.nw (.int .i64) 3) fun x y => mask_All_R x y)], gsT, eqT⟩
theorem q18_fns : FnsOk Tryd.prog q18_cx := Fns_assoc ⟨body_ent Tryd.func18 (by kernel_rfl) (by kernel_rfl), cron_Check_ok, body_ent Tryd.func39 (by kernel_rfl) (by kernel_rfl), next_of_ok, body_ent Tryd.func42 (by kernel_rfl) (by kernel_rfl), cron_Day_ok, body_ent Tryd.func76 (by kernel_rfl) (by kernel_rfl), body_ent Tryd.func77 (by kernel_rfl) (by kernel_rfl), days_At_ok, body_ent Tryd.func105 (by kernel_rfl) (by kernel_rfl), body_ent Tryd.func106 (by kernel_rfl) (by kernel_rfl), body_ent Tryd.func107 (by kernel_rfl) (by kernel_rfl), body_ent Tryd.func127 (by kernel_rfl) (by kernel_rfl), mask_All_ok, trivial⟩
noncomputable def q18_0_body : Code := subC [1, 1, 0, 0] (bodyOf Tryd.f127)
abbrev next_Last_l0_Z : Type := List Int × List Int × Int × Int × Int × Int × Int × Int × Int × Int × Int × Int
abbrev next_Last_l0_Y : Type := (Int) ⊕ (Unit)
abbrev q18_0_C : Type := Unit
abbrev q18_0_Q : Type := Nat × Nat
noncomputable def q18_0_st (z13 : next_Last_l0_Z) (z13q : q18_0_Q) (z13c : q18_0_C) : S := ⟨[(0, (V.yld 21)), (2, (V.ptr 20 0)), (4, (V.row 22 1 (List.length (z13.2.1)) (z13q.2))), (9, (vi (z13.2.2.2.2.2.2.2.2.2.2.1))), (10, (vi (z13.2.2.2.2.2.2.2.2.2.2.2)))], [(Blk.cells [(vu (z13.2.2.1)), (vu (z13.2.2.2.1)), (vu (z13.2.2.2.2.1)), (vu (z13.2.2.2.2.2.1)), (vu (z13.2.2.2.2.2.2.1))]), (Blk.cells [(vi (z13.2.2.2.2.2.2.2.1))]), (Blk.cells [(vu (z13.2.2.1)), (vu (z13.2.2.2.1)), (vu (z13.2.2.2.2.1)), (vu (z13.2.2.2.2.2.1)), (vu (z13.2.2.2.2.2.2.1))]), (Blk.cells [(V.fn 42 [] [(V.ptr 1 0)])]), (Blk.cells [(vi 0)]), (Blk.cells [(vb false)]), (Blk.cells [(vu (z13.2.2.1)), (vu (z13.2.2.2.1)), (vu (z13.2.2.2.2.1)), (vu (z13.2.2.2.2.2.1)), (vu (z13.2.2.2.2.2.2.1))]), (Blk.cells [(vu (z13.2.2.1)), (vu (z13.2.2.2.1)), (vu (z13.2.2.2.2.1)), (vu (z13.2.2.2.2.2.1)), (vu (z13.2.2.2.2.2.2.1))]), (Blk.cells [(vi (z13.2.2.2.2.2.2.2.2.1))]), (Blk.cells [(vb true)]), Blk.dfr, (Blk.loop .ready none ⟨39, [37], (subC [1, 0, 1, 1, 1, 0, 1, 0, 0, 1, 1, 0, 0, 1, 1, 1, 1, 1, 0, 0] (bodyOf Tryd.f39)), (subC [1, 0, 1, 1, 1, 0, 1, 0, 0, 1, 1, 0, 0, 1, 1, 1, 1, 1, 0, 1] (bodyOf Tryd.f39)), [(7, (V.ptr 3 0)), (8, (V.ptr 4 0)), (9, (V.ptr 5 0))], 10⟩), (Blk.cells [(V.yld 11)]), (Blk.cells [(vu (z13.2.2.2.1))]), (Blk.cells [(vb true)]), Blk.dfr, (Blk.loop .busy none ⟨106, [11], (subC [1, 1, 0, 0] (bodyOf Tryd.f106)), (subC [1, 1, 0, 1] (bodyOf Tryd.f106)), [(1, (V.ptr 7 0)), (2, (V.ptr 9 0)), (3, (V.ptr 8 0)), (4, (V.ptr 12 0))], 15⟩), (Blk.row (.int .i64) (z13.1) 3 (z13q.1)), (Blk.cells [(vi (z13.2.2.2.2.2.2.2.2.2.1))]), (Blk.cells [(vu (z13.2.2.1))]), (Blk.cells [(vb true)]), (Blk.loop .ready none ⟨106, [16], (subC [1, 1, 0, 1, 0, 1, 0, 0] (bodyOf Tryd.f106)), (subC [1, 1, 0, 1, 0, 1, 0, 1] (bodyOf Tryd.f106)), [(3, (V.ptr 8 0)), (4, (V.ptr 12 0)), (5, (V.ptr 18 0))], 15⟩), (Blk.row (.int .i64) (z13.2.1) 3 (z13q.2))], []⟩
def q18_0_Kp (K : Ret → S → Prop) (z13x0 : List Int) (z13x2 : Int) (z13x3 : Int) (z13x4 : Int) (z13x5 : Int) (z13x6 : Int) (z13x7 : Int) (z13x8 : Int) (z13x9 : Int) (z13q : q18_0_Q) (y14 : next_Last_l0_Y) : Prop := sume (fun y14 => K .ret ⟨[], [(Blk.cells [(vu z13x2), (vu z13x3), (vu z13x4), (vu z13x5), (vu z13x6)]), (Blk.cells [(vi z13x7)]), (Blk.cells [(vu z13x2), (vu z13x3), (vu z13x4), (vu z13x5), (vu z13x6)]), (Blk.cells [(V.fn 42 [] [(V.ptr 1 0)])]), (Blk.cells [(vi y14)]), (Blk.cells [(vb true)]), (Blk.cells [(vu z13x2), (vu z13x3), (vu z13x4), (vu z13x5), (vu z13x6)]), (Blk.cells [(vu z13x2), (vu z13x3), (vu z13x4), (vu z13x5), (vu z13x6)]), (Blk.cells [(vi z13x8)]), (Blk.cells [(vb true)]), Blk.dfr, (Blk.loop .done (some (.exit 0)) ⟨39, [37], (subC [1, 0, 1, 1, 1, 0, 1, 0, 0, 1, 1, 0, 0, 1, 1, 1, 1, 1, 0, 0] (bodyOf Tryd.f39)), (subC [1, 0, 1, 1, 1, 0, 1, 0, 0, 1, 1, 0, 0, 1, 1, 1, 1, 1, 0, 1] (bodyOf Tryd.f39)), [(7, (V.ptr 3 0)), (8, (V.ptr 4 0)), (9, (V.ptr 5 0))], 10⟩), (Blk.cells [(V.yld 11)]), (Blk.cells [(vu z13x3)]), (Blk.cells [(vb true)]), Blk.dfr, (Blk.loop .busy none ⟨106, [11], (subC [1, 1, 0, 0] (bodyOf Tryd.f106)), (subC [1, 1, 0, 1] (bodyOf Tryd.f106)), [(1, (V.ptr 7 0)), (2, (V.ptr 9 0)), (3, (V.ptr 8 0)), (4, (V.ptr 12 0))], 15⟩), (Blk.row (.int .i64) z13x0 3 (z13q.1)), (Blk.cells [(vi z13x9)]), (Blk.cells [(vu z13x2)]), (Blk.cells [(vb true)]), (Blk.loop .done (some .ret) ⟨106, [16], (subC [1, 1, 0, 1, 0, 1, 0, 0] (bodyOf Tryd.f106)), (subC [1, 1, 0, 1, 0, 1, 0, 1] (bodyOf Tryd.f106)), [(3, (V.ptr 8 0)), (4, (V.ptr 12 0)), (5, (V.ptr 18 0))], 15⟩), Blk.dead], []⟩) (fun y14 => K (.exit 0) ⟨[], [(Blk.cells [(vu z13x2), (vu z13x3), (vu z13x4), (vu z13x5), (vu z13x6)]), (Blk.cells [(vi z13x7)]), (Blk.cells [(vu z13x2), (vu z13x3), (vu z13x4), (vu z13x5), (vu z13x6)]), (Blk.cells [(V.fn 42 [] [(V.ptr 1 0)])]), (Blk.cells [(vi 0)]), (Blk.cells [(vb false)]), (Blk.cells [(vu z13x2), (vu z13x3), (vu z13x4), (vu z13x5), (vu z13x6)]), (Blk.cells [(vu z13x2), (vu z13x3), (vu z13x4), (vu z13x5), (vu z13x6)]), (Blk.cells [(vi z13x8)]), (Blk.cells [(vb true)]), Blk.dfr, (Blk.loop .ready none ⟨39, [37], (subC [1, 0, 1, 1, 1, 0, 1, 0, 0, 1, 1, 0, 0, 1, 1, 1, 1, 1, 0, 0] (bodyOf Tryd.f39)), (subC [1, 0, 1, 1, 1, 0, 1, 0, 0, 1, 1, 0, 0, 1, 1, 1, 1, 1, 0, 1] (bodyOf Tryd.f39)), [(7, (V.ptr 3 0)), (8, (V.ptr 4 0)), (9, (V.ptr 5 0))], 10⟩), (Blk.cells [(V.yld 11)]), (Blk.cells [(vu z13x3)]), (Blk.cells [(vb true)]), Blk.dfr, (Blk.loop .busy none ⟨106, [11], (subC [1, 1, 0, 0] (bodyOf Tryd.f106)), (subC [1, 1, 0, 1] (bodyOf Tryd.f106)), [(1, (V.ptr 7 0)), (2, (V.ptr 9 0)), (3, (V.ptr 8 0)), (4, (V.ptr 12 0))], 15⟩), (Blk.row (.int .i64) z13x0 3 (z13q.1)), (Blk.cells [(vi z13x9)]), (Blk.cells [(vu z13x2)]), (Blk.cells [(vb true)]), (Blk.loop .ready none ⟨106, [16], (subC [1, 1, 0, 1, 0, 1, 0, 0] (bodyOf Tryd.f106)), (subC [1, 1, 0, 1, 0, 1, 0, 1] (bodyOf Tryd.f106)), [(3, (V.ptr 8 0)), (4, (V.ptr 12 0)), (5, (V.ptr 18 0))], 15⟩), Blk.dead], []⟩) y14
def q18_0_K (K : Ret → S → Prop) (z13 : next_Last_l0_Z) (z13q : q18_0_Q) (y14 : next_Last_l0_Y) : Prop := q18_0_Kp K (z13.1) (z13.2.2.1) (z13.2.2.2.1) (z13.2.2.2.2.1) (z13.2.2.2.2.2.1) (z13.2.2.2.2.2.2.1) (z13.2.2.2.2.2.2.2.1) (z13.2.2.2.2.2.2.2.2.1) (z13.2.2.2.2.2.2.2.2.2.1) z13q y14
def next_Last_l0 : Nat → next_Last_l0_Z → next_Last_l0_Y → Prop
  | 0, _, _ => False
  | k + 1, (z13x0, z13x1, z13x2, z13x3, z13x4, z13x5, z13x6, z13x7, z13x8, z13x9, z13x10, z13x11), y14_ => (br (decide (z13x11 < z13x10)) (req ((decide (0 ≤ (IntKind.wrap .i64 ((IntKind.wrap .i64 ((((List.length z13x1) : Nat) : Int) - 1)) - z13x11)))) && (decide ((IntKind.wrap .i64 ((IntKind.wrap .i64 ((((List.length z13x1) : Nat) : Int) - 1)) - z13x11)) < (((List.length z13x1) : Nat) : Int)))) (req (Nat.blt (Int.toNat (IntKind.wrap .i64 ((IntKind.wrap .i64 ((((List.length z13x1) : Nat) : Int) - 1)) - z13x11))) (List.length z13x1)) (br (decide ((IntKind.wrap .i64 ((IntKind.wrap .i64 ((IntKind.wrap .i64 (z13x8 * 86400)) + (IntKind.wrap .i64 (z13x9 * 3600)))) + (IntKind.wrap .i64 ((List.getD z13x1 (Int.toNat (IntKind.wrap .i64 ((IntKind.wrap .i64 ((((List.length z13x1) : Nat) : Int) - 1)) - z13x11))) 0) * 60)))) ≤ z13x7)) ((Sum.inl (IntKind.wrap .i64 ((IntKind.wrap .i64 ((IntKind.wrap .i64 (z13x8 * 86400)) + (IntKind.wrap .i64 (z13x9 * 3600)))) + (IntKind.wrap .i64 ((List.getD z13x1 (Int.toNat (IntKind.wrap .i64 ((IntKind.wrap .i64 ((((List.length z13x1) : Nat) : Int) - 1)) - z13x11))) 0) * 60))))) = y14_) (next_Last_l0 k (z13x0, z13x1, z13x2, z13x3, z13x4, z13x5, z13x6, z13x7, z13x8, z13x9, z13x10, (IntKind.wrap .i64 (z13x11 + 1))) y14_)))) ((Sum.inr ()) = y14_))
def next_Last_l0_L (z : next_Last_l0_Z) (y : next_Last_l0_Y) : Prop := ∃ k, next_Last_l0 k z y
noncomputable def q18_0_lp : Lp := .auto none q18_0_body (loopG 23 q18_0_st (fun z y => ∃ k, next_Last_l0 k z y) q18_0_K)
noncomputable def q18_1_body : Code := subC [1, 1, 0, 0] (bodyOf Tryd.f127)
abbrev next_Last_l1_Z : Type := List Int × Int × Int × Int × Int × Int × Int × Int × Int × Int
abbrev next_Last_l1_Y : Type := (Int) ⊕ (Unit)
abbrev q18_1_C : Type := Unit
abbrev q18_1_Q : Type := Nat
noncomputable def q18_1_st (z9 : next_Last_l1_Z) (z9q : q18_1_Q) (z9c : q18_1_C) : S := ⟨[(0, (V.yld 16)), (2, (V.ptr 14 0)), (4, (V.row 17 1 (List.length (z9.1)) z9q)), (9, (vi (z9.2.2.2.2.2.2.2.2.1))), (10, (vi (z9.2.2.2.2.2.2.2.2.2)))], [(Blk.cells [(vu (z9.2.1)), (vu (z9.2.2.1)), (vu (z9.2.2.2.1)), (vu (z9.2.2.2.2.1)), (vu (z9.2.2.2.2.2.1))]), (Blk.cells [(vi (z9.2.2.2.2.2.2.1))]), (Blk.cells [(vu (z9.2.1)), (vu (z9.2.2.1)), (vu (z9.2.2.2.1)), (vu (z9.2.2.2.2.1)), (vu (z9.2.2.2.2.2.1))]), (Blk.cells [(V.fn 42 [] [(V.ptr 1 0)])]), (Blk.cells [(vi 0)]), (Blk.cells [(vb false)]), (Blk.cells [(vu (z9.2.1)), (vu (z9.2.2.1)), (vu (z9.2.2.2.1)), (vu (z9.2.2.2.2.1)), (vu (z9.2.2.2.2.2.1))]), (Blk.cells [(vu (z9.2.1)), (vu (z9.2.2.1)), (vu (z9.2.2.2.1)), (vu (z9.2.2.2.2.1)), (vu (z9.2.2.2.2.2.1))]), (Blk.cells [(vi (z9.2.2.2.2.2.2.2.1))]), (Blk.cells [(vb true)]), Blk.dfr, (Blk.loop .ready none ⟨39, [37], (subC [1, 0, 1, 1, 1, 0, 1, 0, 0, 1, 1, 0, 0, 1, 1, 1, 1, 1, 0, 0] (bodyOf Tryd.f39)), (subC [1, 0, 1, 1, 1, 0, 1, 0, 0, 1, 1, 0, 0, 1, 1, 1, 1, 1, 0, 1] (bodyOf Tryd.f39)), [(7, (V.ptr 3 0)), (8, (V.ptr 4 0)), (9, (V.ptr 5 0))], 10⟩), (Blk.cells [(V.yld 11)]), (Blk.cells [(vu (z9.2.2.1))]), (Blk.cells [(vb true)]), Blk.dfr, (Blk.loop .ready none ⟨106, [11], (subC [1, 1, 0, 0] (bodyOf Tryd.f106)), (subC [1, 1, 0, 1] (bodyOf Tryd.f106)), [(1, (V.ptr 7 0)), (2, (V.ptr 9 0)), (3, (V.ptr 8 0)), (4, (V.ptr 12 0))], 15⟩), (Blk.row (.int .i64) (z9.1) 3 z9q)], []⟩
def q18_1_Kp (K : Ret → S → Prop) (z9x1 : Int) (z9x2 : Int) (z9x3 : Int) (z9x4 : Int) (z9x5 : Int) (z9x6 : Int) (z9x7 : Int) (z9q : q18_1_Q) (y10 : next_Last_l1_Y) : Prop := sume (fun y10 => K .ret ⟨[], [(Blk.cells [(vu z9x1), (vu z9x2), (vu z9x3), (vu z9x4), (vu z9x5)]), (Blk.cells [(vi z9x6)]), (Blk.cells [(vu z9x1), (vu z9x2), (vu z9x3), (vu z9x4), (vu z9x5)]), (Blk.cells [(V.fn 42 [] [(V.ptr 1 0)])]), (Blk.cells [(vi y10)]), (Blk.cells [(vb true)]), (Blk.cells [(vu z9x1), (vu z9x2), (vu z9x3), (vu z9x4), (vu z9x5)]), (Blk.cells [(vu z9x1), (vu z9x2), (vu z9x3), (vu z9x4), (vu z9x5)]), (Blk.cells [(vi z9x7)]), (Blk.cells [(vb true)]), Blk.dfr, (Blk.loop .done (some (.exit 0)) ⟨39, [37], (subC [1, 0, 1, 1, 1, 0, 1, 0, 0, 1, 1, 0, 0, 1, 1, 1, 1, 1, 0, 0] (bodyOf Tryd.f39)), (subC [1, 0, 1, 1, 1, 0, 1, 0, 0, 1, 1, 0, 0, 1, 1, 1, 1, 1, 0, 1] (bodyOf Tryd.f39)), [(7, (V.ptr 3 0)), (8, (V.ptr 4 0)), (9, (V.ptr 5 0))], 10⟩), (Blk.cells [(V.yld 11)]), (Blk.cells [(vu z9x2)]), (Blk.cells [(vb true)]), Blk.dfr, (Blk.loop .done (some .ret) ⟨106, [11], (subC [1, 1, 0, 0] (bodyOf Tryd.f106)), (subC [1, 1, 0, 1] (bodyOf Tryd.f106)), [(1, (V.ptr 7 0)), (2, (V.ptr 9 0)), (3, (V.ptr 8 0)), (4, (V.ptr 12 0))], 15⟩), Blk.dead], []⟩) (fun y10 => K (.exit 0) ⟨[], [(Blk.cells [(vu z9x1), (vu z9x2), (vu z9x3), (vu z9x4), (vu z9x5)]), (Blk.cells [(vi z9x6)]), (Blk.cells [(vu z9x1), (vu z9x2), (vu z9x3), (vu z9x4), (vu z9x5)]), (Blk.cells [(V.fn 42 [] [(V.ptr 1 0)])]), (Blk.cells [(vi 0)]), (Blk.cells [(vb false)]), (Blk.cells [(vu z9x1), (vu z9x2), (vu z9x3), (vu z9x4), (vu z9x5)]), (Blk.cells [(vu z9x1), (vu z9x2), (vu z9x3), (vu z9x4), (vu z9x5)]), (Blk.cells [(vi z9x7)]), (Blk.cells [(vb true)]), Blk.dfr, (Blk.loop .ready none ⟨39, [37], (subC [1, 0, 1, 1, 1, 0, 1, 0, 0, 1, 1, 0, 0, 1, 1, 1, 1, 1, 0, 0] (bodyOf Tryd.f39)), (subC [1, 0, 1, 1, 1, 0, 1, 0, 0, 1, 1, 0, 0, 1, 1, 1, 1, 1, 0, 1] (bodyOf Tryd.f39)), [(7, (V.ptr 3 0)), (8, (V.ptr 4 0)), (9, (V.ptr 5 0))], 10⟩), (Blk.cells [(V.yld 11)]), (Blk.cells [(vu z9x2)]), (Blk.cells [(vb true)]), Blk.dfr, (Blk.loop .ready none ⟨106, [11], (subC [1, 1, 0, 0] (bodyOf Tryd.f106)), (subC [1, 1, 0, 1] (bodyOf Tryd.f106)), [(1, (V.ptr 7 0)), (2, (V.ptr 9 0)), (3, (V.ptr 8 0)), (4, (V.ptr 12 0))], 15⟩), Blk.dead], []⟩) y10
def q18_1_K (K : Ret → S → Prop) (z9 : next_Last_l1_Z) (z9q : q18_1_Q) (y10 : next_Last_l1_Y) : Prop := q18_1_Kp K (z9.2.1) (z9.2.2.1) (z9.2.2.2.1) (z9.2.2.2.2.1) (z9.2.2.2.2.2.1) (z9.2.2.2.2.2.2.1) (z9.2.2.2.2.2.2.2.1) z9q y10
def next_Last_l1 : Nat → next_Last_l1_Z → next_Last_l1_Y → Prop
  | 0, _, _ => False
  | k + 1, (z9x0, z9x1, z9x2, z9x3, z9x4, z9x5, z9x6, z9x7, z9x8, z9x9), y10_ => (br (decide (z9x9 < z9x8)) (req ((decide (0 ≤ (IntKind.wrap .i64 ((IntKind.wrap .i64 ((((List.length z9x0) : Nat) : Int) - 1)) - z9x9)))) && (decide ((IntKind.wrap .i64 ((IntKind.wrap .i64 ((((List.length z9x0) : Nat) : Int) - 1)) - z9x9)) < (((List.length z9x0) : Nat) : Int)))) (req (Nat.blt (Int.toNat (IntKind.wrap .i64 ((IntKind.wrap .i64 ((((List.length z9x0) : Nat) : Int) - 1)) - z9x9))) (List.length z9x0)) (∃ y11 : List Int, (mask_All_R z9x1 y11) ∧ (∃ y16 : next_Last_l0_Y, next_Last_l0_L (z9x0, y11, z9x1, z9x2, z9x3, z9x4, z9x5, z9x6, z9x7, (List.getD z9x0 (Int.toNat (IntKind.wrap .i64 ((IntKind.wrap .i64 ((((List.length z9x0) : Nat) : Int) - 1)) - z9x9))) 0), (((List.length y11) : Nat) : Int), 0) y16 ∧ sume (fun y16 => ((Sum.inl y16) = y10_)) (fun y16 => (next_Last_l1 k (z9x0, z9x1, z9x2, z9x3, z9x4, z9x5, z9x6, z9x7, z9x8, (IntKind.wrap .i64 (z9x9 + 1))) y10_)) y16)))) ((Sum.inr ()) = y10_))
def next_Last_l1_L (z : next_Last_l1_Z) (y : next_Last_l1_Y) : Prop := ∃ k, next_Last_l1 k z y
noncomputable def q18_1_lp : Lp := .auto none q18_1_body (loopG 18 q18_1_st (fun z y => ∃ k, next_Last_l1 k z y) q18_1_K)
noncomputable def q18_2_body : Code := subC [1, 0, 1, 1, 1, 0, 1, 0, 0] (bodyOf Tryd.f39)
abbrev next_Last_l2_Z : Type := Int × Int × Int × Int × Int × Int × Int × Int
abbrev next_Last_l2_Y : Type := Int × Bool
abbrev q18_2_C : Type := Unit
abbrev q18_2_Q : Type := Unit
noncomputable def q18_2_st (z3 : next_Last_l2_Z) (z3q : q18_2_Q) (z3c : q18_2_C) : S := ⟨[(1, (vi (z3.2.2.2.2.2.2.1))), (2, (vb true)), (4, (V.ptr 2 0)), (7, (V.ptr 3 0)), (8, (V.ptr 4 0)), (9, (V.ptr 5 0)), (10, (V.fn 105 [] [(V.ptr 6 0)])), (19, (vi (z3.2.2.2.2.2.2.2)))], [(Blk.cells [(vu (z3.1)), (vu (z3.2.1)), (vu (z3.2.2.1)), (vu (z3.2.2.2.1)), (vu (z3.2.2.2.2.1))]), (Blk.cells [(vi (z3.2.2.2.2.2.1))]), (Blk.cells [(vu (z3.1)), (vu (z3.2.1)), (vu (z3.2.2.1)), (vu (z3.2.2.2.1)), (vu (z3.2.2.2.2.1))]), (Blk.cells [(V.fn 42 [] [(V.ptr 1 0)])]), (Blk.cells [(vi 0)]), (Blk.cells [(vb false)]), (Blk.cells [(vu (z3.1)), (vu (z3.2.1)), (vu (z3.2.2.1)), (vu (z3.2.2.2.1)), (vu (z3.2.2.2.2.1))])], []⟩
def q18_2_Kp (K : Ret → S → Prop) (z3x0 : Int) (z3x1 : Int) (z3x2 : Int) (z3x3 : Int) (z3x4 : Int) (z3x5 : Int) (z3q : q18_2_Q) (y4 : next_Last_l2_Y) : Prop := K (.exit 0) ⟨[(8, (V.ptr 4 0)), (9, (V.ptr 5 0))], [(Blk.cells [(vu z3x0), (vu z3x1), (vu z3x2), (vu z3x3), (vu z3x4)]), (Blk.cells [(vi z3x5)]), Blk.dead, Blk.dead, (Blk.cells [(vi (y4.1))]), (Blk.cells [(vb (y4.2))]), Blk.dead, Blk.dead, Blk.dead, Blk.dead, Blk.dead, Blk.dead], []⟩
def q18_2_K (K : Ret → S → Prop) (z3 : next_Last_l2_Z) (z3q : q18_2_Q) (y4 : next_Last_l2_Y) : Prop := q18_2_Kp K (z3.1) (z3.2.1) (z3.2.2.1) (z3.2.2.2.1) (z3.2.2.2.2.1) (z3.2.2.2.2.2.1) z3q y4
def next_Last_l2 : Nat → next_Last_l2_Z → next_Last_l2_Y → Prop
  | 0, _, _ => False
  | k + 1, (z3x0, z3x1, z3x2, z3x3, z3x4, z3x5, z3x6, z3x7), y4_ => (br (decide (z3x7 < 2923)) (∃ y5 : (Int × Int × Int) × Int, (days_At_R (IntKind.wrap .i64 (z3x6 - z3x7)) y5) ∧ (br ((y5.2) == 0) (∃ y6 : Bool, (cron_Day_R z3x0 z3x1 z3x2 z3x3 z3x4 ((y5.1).1) (((y5.1).2).1) (((y5.1).2).2) y6) ∧ (br (!y6) (next_Last_l2 k (z3x0, z3x1, z3x2, z3x3, z3x4, z3x5, z3x6, (IntKind.wrap .i64 (z3x7 + 1))) y4_) (∃ y7 : List Int, (mask_All_R z3x1 y7) ∧ (∃ y18 : next_Last_l1_Y, next_Last_l1_L (y7, z3x0, z3x1, z3x2, z3x3, z3x4, z3x5, (IntKind.wrap .i64 (z3x6 - z3x7)), (((List.length y7) : Nat) : Int), 0) y18 ∧ sume (fun y18 => ((y18, true) = y4_)) (fun y18 => (next_Last_l2 k (z3x0, z3x1, z3x2, z3x3, z3x4, z3x5, z3x6, (IntKind.wrap .i64 (z3x7 + 1))) y4_)) y18)))) (next_Last_l2 k (z3x0, z3x1, z3x2, z3x3, z3x4, z3x5, z3x6, (IntKind.wrap .i64 (z3x7 + 1))) y4_))) ((0, false) = y4_))
def next_Last_l2_L (z : next_Last_l2_Z) (y : next_Last_l2_Y) : Prop := ∃ k, next_Last_l2 k z y
noncomputable def q18_2_lp : Lp := .auto none q18_2_body (loopG 7 q18_2_st (fun z y => ∃ k, next_Last_l2 k z y) q18_2_K)
noncomputable def q18_lp : Nat → FuncId → Nat → Nat → Lp := lpTab [(127, 2, 23, 3, q18_0_lp), (127, 2, 18, 5, q18_1_lp), (39, 5, 7, 7, q18_2_lp)]
theorem q18_0_round (n : Nat) (z13x0 : List Int) (z13x1 : List Int) (z13x2 : Int) (z13x3 : Int) (z13x4 : Int) (z13x5 : Int) (z13x6 : Int) (z13x7 : Int) (z13x8 : Int) (z13x9 : Int) (z13x10 : Int) (z13x11 : Int) (z13q0 : Nat) (z13q1 : Nat) (K : Ret → S → Prop) (next : S → Prop) : acode q18_cx 127 (acall q18_cx okT q18_lp (n + 3)) (okT 127) (q18_lp (n + 3) 127) none q18_0_body (iterK (wkK 23 K) next) (q18_0_st (z13x0, z13x1, z13x2, z13x3, z13x4, z13x5, z13x6, z13x7, z13x8, z13x9, z13x10, z13x11) (z13q0, z13q1) ()) =
    (req true (br (decide (z13x11 < z13x10)) (rqn 12 (req ((decide (0 ≤ (wI ((wI ((((List.length z13x1) : Nat) : Int) - 1)) - z13x11)))) && (decide ((wI ((wI ((((List.length z13x1) : Nat) : Int) - 1)) - z13x11)) < (((List.length z13x1) : Nat) : Int)))) (req (Nat.blt (Int.toNat (wI ((wI ((((List.length z13x1) : Nat) : Int) - 1)) - z13x11))) (List.length z13x1)) (rqn 20 (br (decide ((wI ((wI ((wI (z13x8 * 86400)) + (wI (z13x9 * 3600)))) + (wI ((List.getD z13x1 (Int.toNat (wI ((wI ((((List.length z13x1) : Nat) : Int) - 1)) - z13x11))) 0) * 60)))) ≤ z13x7)) (rqn 3 (wkK 23 K .ret ⟨[(0, (V.yld 21)), (2, (V.ptr 20 0)), (4, (V.row 22 1 (List.length z13x1) z13q1)), (9, (vi z13x10)), (10, (vi z13x11)), (11, (vb (decide (z13x11 < z13x10)))), (5, (vi (wI ((wI ((((List.length z13x1) : Nat) : Int) - 1)) - z13x11)))), (13, (vb true)), (25, (vb true))], [(Blk.cells [(vu z13x2), (vu z13x3), (vu z13x4), (vu z13x5), (vu z13x6)]), (Blk.cells [(vi z13x7)]), (Blk.cells [(vu z13x2), (vu z13x3), (vu z13x4), (vu z13x5), (vu z13x6)]), (Blk.cells [(V.fn 42 [] [(V.ptr 1 0)])]), (Blk.cells [(vi (wI ((wI ((wI (z13x8 * 86400)) + (wI (z13x9 * 3600)))) + (wI ((List.getD z13x1 (Int.toNat (wI ((wI ((((List.length z13x1) : Nat) : Int) - 1)) - z13x11))) 0) * 60)))))]), (Blk.cells [(vb true)]), (Blk.cells [(vu z13x2), (vu z13x3), (vu z13x4), (vu z13x5), (vu z13x6)]), (Blk.cells [(vu z13x2), (vu z13x3), (vu z13x4), (vu z13x5), (vu z13x6)]), (Blk.cells [(vi z13x8)]), (Blk.cells [(vb true)]), Blk.dfr, (Blk.loop .done (some (.exit 0)) ⟨39, [37], (subC [1, 0, 1, 1, 1, 0, 1, 0, 0, 1, 1, 0, 0, 1, 1, 1, 1, 1, 0, 0] (bodyOf Tryd.f39)), (subC [1, 0, 1, 1, 1, 0, 1, 0, 0, 1, 1, 0, 0, 1, 1, 1, 1, 1, 0, 1] (bodyOf Tryd.f39)), [(7, (V.ptr 3 0)), (8, (V.ptr 4 0)), (9, (V.ptr 5 0))], 10⟩), (Blk.cells [(V.yld 11)]), (Blk.cells [(vu z13x3)]), (Blk.cells [(vb true)]), Blk.dfr, (Blk.loop .busy none ⟨106, [11], (subC [1, 1, 0, 0] (bodyOf Tryd.f106)), (subC [1, 1, 0, 1] (bodyOf Tryd.f106)), [(1, (V.ptr 7 0)), (2, (V.ptr 9 0)), (3, (V.ptr 8 0)), (4, (V.ptr 12 0))], 15⟩), (Blk.row (.int .i64) z13x0 3 z13q0), (Blk.cells [(vi z13x9)]), (Blk.cells [(vu z13x2)]), (Blk.cells [(vb true)]), (Blk.loop .done (some .ret) ⟨106, [16], (subC [1, 1, 0, 1, 0, 1, 0, 0] (bodyOf Tryd.f106)), (subC [1, 1, 0, 1, 0, 1, 0, 1] (bodyOf Tryd.f106)), [(3, (V.ptr 8 0)), (4, (V.ptr 12 0)), (5, (V.ptr 18 0))], 15⟩), (Blk.row (.int .i64) z13x1 3 z13q1)], []⟩)) (rqn 4 (next ⟨[(0, (V.yld 21)), (2, (V.ptr 20 0)), (4, (V.row 22 1 (List.length z13x1) z13q1)), (9, (vi z13x10)), (10, (vi (wI (z13x11 + 1)))), (11, (vb (decide (z13x11 < z13x10)))), (5, (vi (wI ((wI ((((List.length z13x1) : Nat) : Int) - 1)) - z13x11)))), (13, (vb true)), (25, (vb false))], [(Blk.cells [(vu z13x2), (vu z13x3), (vu z13x4), (vu z13x5), (vu z13x6)]), (Blk.cells [(vi z13x7)]), (Blk.cells [(vu z13x2), (vu z13x3), (vu z13x4), (vu z13x5), (vu z13x6)]), (Blk.cells [(V.fn 42 [] [(V.ptr 1 0)])]), (Blk.cells [(vi 0)]), (Blk.cells [(vb false)]), (Blk.cells [(vu z13x2), (vu z13x3), (vu z13x4), (vu z13x5), (vu z13x6)]), (Blk.cells [(vu z13x2), (vu z13x3), (vu z13x4), (vu z13x5), (vu z13x6)]), (Blk.cells [(vi z13x8)]), (Blk.cells [(vb true)]), Blk.dfr, (Blk.loop .ready none ⟨39, [37], (subC [1, 0, 1, 1, 1, 0, 1, 0, 0, 1, 1, 0, 0, 1, 1, 1, 1, 1, 0, 0] (bodyOf Tryd.f39)), (subC [1, 0, 1, 1, 1, 0, 1, 0, 0, 1, 1, 0, 0, 1, 1, 1, 1, 1, 0, 1] (bodyOf Tryd.f39)), [(7, (V.ptr 3 0)), (8, (V.ptr 4 0)), (9, (V.ptr 5 0))], 10⟩), (Blk.cells [(V.yld 11)]), (Blk.cells [(vu z13x3)]), (Blk.cells [(vb true)]), Blk.dfr, (Blk.loop .busy none ⟨106, [11], (subC [1, 1, 0, 0] (bodyOf Tryd.f106)), (subC [1, 1, 0, 1] (bodyOf Tryd.f106)), [(1, (V.ptr 7 0)), (2, (V.ptr 9 0)), (3, (V.ptr 8 0)), (4, (V.ptr 12 0))], 15⟩), (Blk.row (.int .i64) z13x0 3 z13q0), (Blk.cells [(vi z13x9)]), (Blk.cells [(vu z13x2)]), (Blk.cells [(vb true)]), (Blk.loop .ready none ⟨106, [16], (subC [1, 1, 0, 1, 0, 1, 0, 0] (bodyOf Tryd.f106)), (subC [1, 1, 0, 1, 0, 1, 0, 1] (bodyOf Tryd.f106)), [(3, (V.ptr 8 0)), (4, (V.ptr 12 0)), (5, (V.ptr 18 0))], 15⟩), (Blk.row (.int .i64) z13x1 3 z13q1)], []⟩))))))) (wkK 23 K (.exit 0) ⟨[(0, (V.yld 21)), (2, (V.ptr 20 0)), (4, (V.row 22 1 (List.length z13x1) z13q1)), (9, (vi z13x10)), (10, (vi z13x11)), (11, (vb (decide (z13x11 < z13x10))))], [(Blk.cells [(vu z13x2), (vu z13x3), (vu z13x4), (vu z13x5), (vu z13x6)]), (Blk.cells [(vi z13x7)]), (Blk.cells [(vu z13x2), (vu z13x3), (vu z13x4), (vu z13x5), (vu z13x6)]), (Blk.cells [(V.fn 42 [] [(V.ptr 1 0)])]), (Blk.cells [(vi 0)]), (Blk.cells [(vb false)]), (Blk.cells [(vu z13x2), (vu z13x3), (vu z13x4), (vu z13x5), (vu z13x6)]), (Blk.cells [(vu z13x2), (vu z13x3), (vu z13x4), (vu z13x5), (vu z13x6)]), (Blk.cells [(vi z13x8)]), (Blk.cells [(vb true)]), Blk.dfr, (Blk.loop .ready none ⟨39, [37], (subC [1, 0, 1, 1, 1, 0, 1, 0, 0, 1, 1, 0, 0, 1, 1, 1, 1, 1, 0, 0] (bodyOf Tryd.f39)), (subC [1, 0, 1, 1, 1, 0, 1, 0, 0, 1, 1, 0, 0, 1, 1, 1, 1, 1, 0, 1] (bodyOf Tryd.f39)), [(7, (V.ptr 3 0)), (8, (V.ptr 4 0)), (9, (V.ptr 5 0))], 10⟩), (Blk.cells [(V.yld 11)]), (Blk.cells [(vu z13x3)]), (Blk.cells [(vb true)]), Blk.dfr, (Blk.loop .busy none ⟨106, [11], (subC [1, 1, 0, 0] (bodyOf Tryd.f106)), (subC [1, 1, 0, 1] (bodyOf Tryd.f106)), [(1, (V.ptr 7 0)), (2, (V.ptr 9 0)), (3, (V.ptr 8 0)), (4, (V.ptr 12 0))], 15⟩), (Blk.row (.int .i64) z13x0 3 z13q0), (Blk.cells [(vi z13x9)]), (Blk.cells [(vu z13x2)]), (Blk.cells [(vb true)]), (Blk.loop .ready none ⟨106, [16], (subC [1, 1, 0, 1, 0, 1, 0, 0] (bodyOf Tryd.f106)), (subC [1, 1, 0, 1, 0, 1, 0, 1] (bodyOf Tryd.f106)), [(3, (V.ptr 8 0)), (4, (V.ptr 12 0)), (5, (V.ptr 18 0))], 15⟩), (Blk.row (.int .i64) z13x1 3 z13q1)], []⟩))) := by kernel_rfl
theorem q18_0_step (n k : Nat) (z13x0 : List Int) (z13x1 : List Int) (z13x2 : Int) (z13x3 : Int) (z13x4 : Int) (z13x5 : Int) (z13x6 : Int) (z13x7 : Int) (z13x8 : Int) (z13x9 : Int) (z13x10 : Int) (z13x11 : Int) (z13q0 : Nat) (z13q1 : Nat) (y14_ : next_Last_l0_Y) (K : Ret → S → Prop) (h : next_Last_l0 (k + 1) (z13x0, z13x1, z13x2, z13x3, z13x4, z13x5, z13x6, z13x7, z13x8, z13x9, z13x10, z13x11) y14_) (hK : q18_0_Kp K z13x0 z13x2 z13x3 z13x4 z13x5 z13x6 z13x7 z13x8 z13x9 (z13q0, z13q1) y14_) (next : S → Prop) (hnext : ∀ z' s', next_Last_l0 k z' y14_ → q18_0_K K z' (z13q0, z13q1) y14_ → (∃ cc', wk 23 s' (q18_0_st z' (z13q0, z13q1) cc')) → next s') : acode q18_cx 127 (acall q18_cx okT q18_lp (n + 3)) (okT 127) (q18_lp (n + 3) 127) none q18_0_body (iterK (wkK 23 K) next) (q18_0_st (z13x0, z13x1, z13x2, z13x3, z13x4, z13x5, z13x6, z13x7, z13x8, z13x9, z13x10, z13x11) (z13q0, z13q1) ()) := by
  refine cast (q18_0_round n z13x0 z13x1 z13x2 z13x3 z13x4 z13x5 z13x6 z13x7 z13x8 z13x9 z13x10 z13x11 z13q0 z13q1 K next).symm ?_
  simp only [next_Last_l0] at h
  refine req_intro rfl ?_
  refine br_both h (fun hb h => ?_) (fun hb h => ?_)
  · refine rqn_intro 12 ?_
    obtain ⟨q, h⟩ := req_of h
    refine req_intro (band (band_l q) (band_r q)) ?_
    obtain ⟨q, h⟩ := req_of h
    refine req_intro q ?_
    refine rqn_intro 20 ?_
    refine br_both h (fun hb h => ?_) (fun hb h => ?_)
    · refine rqn_intro 3 ?_
      subst h
      refine ⟨_, ?_, hK⟩
      exact wk_of (Or.inr ⟨trivial, ⟨Or.inl rfl, Or.inl rfl, Or.inl rfl, Or.inl rfl, Or.inl rfl, Or.inl rfl, Or.inl rfl, Or.inl rfl, Or.inl rfl, Or.inl rfl, Or.inl rfl, Or.inl rfl, Or.inl rfl, Or.inl rfl, Or.inl rfl, Or.inl rfl, Or.inl rfl, Or.inl rfl, Or.inl rfl, Or.inl rfl, Or.inl rfl, Or.inl rfl, Or.inr (Or.inl rfl), trivial⟩, rfl, rfl, rfl⟩)
    · refine rqn_intro 4 ?_
      exact hnext (z13x0, z13x1, z13x2, z13x3, z13x4, z13x5, z13x6, z13x7, z13x8, z13x9, z13x10, (wI (z13x11 + 1))) _ h hK ⟨(), wk_of (Or.inr ⟨⟨Or.inl rfl, Or.inl rfl, Or.inl rfl, Or.inl rfl, Or.inl rfl, trivial⟩, ⟨Or.inl rfl, Or.inl rfl, Or.inl rfl, Or.inl rfl, Or.inl rfl, Or.inl rfl, Or.inl rfl, Or.inl rfl, Or.inl rfl, Or.inl rfl, Or.inl rfl, Or.inl rfl, Or.inl rfl, Or.inl rfl, Or.inl rfl, Or.inl rfl, Or.inl rfl, Or.inl rfl, Or.inl rfl, Or.inl rfl, Or.inl rfl, Or.inl rfl, Or.inl rfl, trivial⟩, rfl, rfl, rfl⟩)⟩
  · subst h
    refine ⟨_, ?_, hK⟩
    exact wk_of (Or.inr ⟨trivial, ⟨Or.inl rfl, Or.inl rfl, Or.inl rfl, Or.inl rfl, Or.inl rfl, Or.inl rfl, Or.inl rfl, Or.inl rfl, Or.inl rfl, Or.inl rfl, Or.inl rfl, Or.inl rfl, Or.inl rfl, Or.inl rfl, Or.inl rfl, Or.inl rfl, Or.inl rfl, Or.inl rfl, Or.inl rfl, Or.inl rfl, Or.inl rfl, Or.inl rfl, Or.inr (Or.inl rfl), trivial⟩, rfl, rfl, rfl⟩)
theorem q18_0_ok (n : Nat) : Owed q18_cx okT 127 q18_lp (n + 3) q18_0_lp := loop_owed (fun z y h => h) fun k zz qq cc yy K h hK next hnext => q18_0_step n k zz.1 zz.2.1 zz.2.2.1 zz.2.2.2.1 zz.2.2.2.2.1 zz.2.2.2.2.2.1 zz.2.2.2.2.2.2.1 zz.2.2.2.2.2.2.2.1 zz.2.2.2.2.2.2.2.2.1 zz.2.2.2.2.2.2.2.2.2.1 zz.2.2.2.2.2.2.2.2.2.2.1 zz.2.2.2.2.2.2.2.2.2.2.2 qq.1 qq.2 yy K h hK next hnext
theorem q18_1_round (n : Nat) (z9x0 : List Int) (z9x1 : Int) (z9x2 : Int) (z9x3 : Int) (z9x4 : Int) (z9x5 : Int) (z9x6 : Int) (z9x7 : Int) (z9x8 : Int) (z9x9 : Int) (z9q0 : Nat) (K : Ret → S → Prop) (next : S → Prop) : acode q18_cx 127 (acall q18_cx okT q18_lp (n + 5)) (okT 127) (q18_lp (n + 5) 127) none q18_1_body (iterK (wkK 18 K) next) (q18_1_st (z9x0, z9x1, z9x2, z9x3, z9x4, z9x5, z9x6, z9x7, z9x8, z9x9) z9q0 ()) =
    (req true (br (decide (z9x9 < z9x8)) (rqn 12 (req ((decide (0 ≤ (wI ((wI ((((List.length z9x0) : Nat) : Int) - 1)) - z9x9)))) && (decide ((wI ((wI ((((List.length z9x0) : Nat) : Int) - 1)) - z9x9)) < (((List.length z9x0) : Nat) : Int)))) (req (Nat.blt (Int.toNat (wI ((wI ((((List.length z9x0) : Nat) : Int) - 1)) - z9x9))) (List.length z9x0)) (rqn 9 (∃ y11 : List Int, (mask_All_R z9x1 y11) ∧ (∀ c12 : Nat, Nat.ble (List.length y11) c12 = true → (rqn 4 (((none : Option Nat) = (none : Option Nat)) ∧ (q18_0_body = q18_0_body) ∧ ∃ z15 : next_Last_l0_Z, ∃ z15q : q18_0_Q, ∃ y16 : next_Last_l0_Y, (23 = 23) ∧ (∃ zc : q18_0_C, wk 23 ⟨[(0, (V.yld 21)), (1, (V.ptr 19 0)), (2, (V.ptr 20 0)), (4, (V.row 22 1 (List.length y11) c12)), (9, (vi (((List.length y11) : Nat) : Int))), (10, (vi 0))], [(Blk.cells [(vu z9x1), (vu z9x2), (vu z9x3), (vu z9x4), (vu z9x5)]), (Blk.cells [(vi z9x6)]), (Blk.cells [(vu z9x1), (vu z9x2), (vu z9x3), (vu z9x4), (vu z9x5)]), (Blk.cells [(V.fn 42 [] [(V.ptr 1 0)])]), (Blk.cells [(vi 0)]), (Blk.cells [(vb false)]), (Blk.cells [(vu z9x1), (vu z9x2), (vu z9x3), (vu z9x4), (vu z9x5)]), (Blk.cells [(vu z9x1), (vu z9x2), (vu z9x3), (vu z9x4), (vu z9x5)]), (Blk.cells [(vi z9x7)]), (Blk.cells [(vb true)]), Blk.dfr, (Blk.loop .ready none ⟨39, [37], (subC [1, 0, 1, 1, 1, 0, 1, 0, 0, 1, 1, 0, 0, 1, 1, 1, 1, 1, 0, 0] (bodyOf Tryd.f39)), (subC [1, 0, 1, 1, 1, 0, 1, 0, 0, 1, 1, 0, 0, 1, 1, 1, 1, 1, 0, 1] (bodyOf Tryd.f39)), [(7, (V.ptr 3 0)), (8, (V.ptr 4 0)), (9, (V.ptr 5 0))], 10⟩), (Blk.cells [(V.yld 11)]), (Blk.cells [(vu z9x2)]), (Blk.cells [(vb true)]), Blk.dfr, (Blk.loop .busy none ⟨106, [11], (subC [1, 1, 0, 0] (bodyOf Tryd.f106)), (subC [1, 1, 0, 1] (bodyOf Tryd.f106)), [(1, (V.ptr 7 0)), (2, (V.ptr 9 0)), (3, (V.ptr 8 0)), (4, (V.ptr 12 0))], 15⟩), (Blk.row (.int .i64) z9x0 3 z9q0), (Blk.cells [(vi (List.getD z9x0 (Int.toNat (wI ((wI ((((List.length z9x0) : Nat) : Int) - 1)) - z9x9))) 0))]), (Blk.cells [(vu z9x1)]), (Blk.cells [(vb true)]), (Blk.loop .ready none ⟨106, [16], (subC [1, 1, 0, 1, 0, 1, 0, 0] (bodyOf Tryd.f106)), (subC [1, 1, 0, 1, 0, 1, 0, 1] (bodyOf Tryd.f106)), [(1, (V.ptr 7 0)), (2, (V.ptr 9 0)), (3, (V.ptr 8 0)), (4, (V.ptr 12 0)), (11, (vi (List.getD z9x0 (Int.toNat (wI ((wI ((((List.length z9x0) : Nat) : Int) - 1)) - z9x9))) 0))), (5, (V.ptr 18 0)), (15, (V.fn 127 [] [(V.ptr 19 0), (V.ptr 20 0)]))], 15⟩), (Blk.row (.int .i64) y11 3 c12)], []⟩ (q18_0_st z15 z15q zc)) ∧ (∃ k, next_Last_l0 k z15 y16) ∧ sume (fun y16 => (req true (wkK 18 K .ret ⟨[(0, (V.yld 16)), (2, (V.ptr 14 0)), (4, (V.row 17 1 (List.length z9x0) z9q0)), (9, (vi z9x8)), (10, (vi z9x9)), (11, (vb (decide (z9x9 < z9x8)))), (5, (vi (wI ((wI ((((List.length z9x0) : Nat) : Int) - 1)) - z9x9)))), (13, (vb true)), (25, (vb true))], [(Blk.cells [(vu (z15.2.2.1)), (vu (z15.2.2.2.1)), (vu (z15.2.2.2.2.1)), (vu (z15.2.2.2.2.2.1)), (vu (z15.2.2.2.2.2.2.1))]), (Blk.cells [(vi (z15.2.2.2.2.2.2.2.1))]), (Blk.cells [(vu (z15.2.2.1)), (vu (z15.2.2.2.1)), (vu (z15.2.2.2.2.1)), (vu (z15.2.2.2.2.2.1)), (vu (z15.2.2.2.2.2.2.1))]), (Blk.cells [(V.fn 42 [] [(V.ptr 1 0)])]), (Blk.cells [(vi y16)]), (Blk.cells [(vb true)]), (Blk.cells [(vu (z15.2.2.1)), (vu (z15.2.2.2.1)), (vu (z15.2.2.2.2.1)), (vu (z15.2.2.2.2.2.1)), (vu (z15.2.2.2.2.2.2.1))]), (Blk.cells [(vu (z15.2.2.1)), (vu (z15.2.2.2.1)), (vu (z15.2.2.2.2.1)), (vu (z15.2.2.2.2.2.1)), (vu (z15.2.2.2.2.2.2.1))]), (Blk.cells [(vi (z15.2.2.2.2.2.2.2.2.1))]), (Blk.cells [(vb true)]), Blk.dfr, (Blk.loop .done (some (.exit 0)) ⟨39, [37], (subC [1, 0, 1, 1, 1, 0, 1, 0, 0, 1, 1, 0, 0, 1, 1, 1, 1, 1, 0, 0] (bodyOf Tryd.f39)), (subC [1, 0, 1, 1, 1, 0, 1, 0, 0, 1, 1, 0, 0, 1, 1, 1, 1, 1, 0, 1] (bodyOf Tryd.f39)), [(7, (V.ptr 3 0)), (8, (V.ptr 4 0)), (9, (V.ptr 5 0))], 10⟩), (Blk.cells [(V.yld 11)]), (Blk.cells [(vu (z15.2.2.2.1))]), (Blk.cells [(vb true)]), Blk.dfr, (Blk.loop .done (some .ret) ⟨106, [11], (subC [1, 1, 0, 0] (bodyOf Tryd.f106)), (subC [1, 1, 0, 1] (bodyOf Tryd.f106)), [(1, (V.ptr 7 0)), (2, (V.ptr 9 0)), (3, (V.ptr 8 0)), (4, (V.ptr 12 0))], 15⟩), (Blk.row (.int .i64) (z15.1) 3 (z15q.1))], []⟩))) (fun y16 => (rqn 3 (next ⟨[(0, (V.yld 16)), (2, (V.ptr 14 0)), (4, (V.row 17 1 (List.length z9x0) z9q0)), (9, (vi z9x8)), (10, (vi (wI (z9x9 + 1)))), (11, (vb (decide (z9x9 < z9x8)))), (5, (vi (wI ((wI ((((List.length z9x0) : Nat) : Int) - 1)) - z9x9)))), (13, (vb true)), (25, (vb false))], [(Blk.cells [(vu (z15.2.2.1)), (vu (z15.2.2.2.1)), (vu (z15.2.2.2.2.1)), (vu (z15.2.2.2.2.2.1)), (vu (z15.2.2.2.2.2.2.1))]), (Blk.cells [(vi (z15.2.2.2.2.2.2.2.1))]), (Blk.cells [(vu (z15.2.2.1)), (vu (z15.2.2.2.1)), (vu (z15.2.2.2.2.1)), (vu (z15.2.2.2.2.2.1)), (vu (z15.2.2.2.2.2.2.1))]), (Blk.cells [(V.fn 42 [] [(V.ptr 1 0)])]), (Blk.cells [(vi 0)]), (Blk.cells [(vb false)]), (Blk.cells [(vu (z15.2.2.1)), (vu (z15.2.2.2.1)), (vu (z15.2.2.2.2.1)), (vu (z15.2.2.2.2.2.1)), (vu (z15.2.2.2.2.2.2.1))]), (Blk.cells [(vu (z15.2.2.1)), (vu (z15.2.2.2.1)), (vu (z15.2.2.2.2.1)), (vu (z15.2.2.2.2.2.1)), (vu (z15.2.2.2.2.2.2.1))]), (Blk.cells [(vi (z15.2.2.2.2.2.2.2.2.1))]), (Blk.cells [(vb true)]), Blk.dfr, (Blk.loop .ready none ⟨39, [37], (subC [1, 0, 1, 1, 1, 0, 1, 0, 0, 1, 1, 0, 0, 1, 1, 1, 1, 1, 0, 0] (bodyOf Tryd.f39)), (subC [1, 0, 1, 1, 1, 0, 1, 0, 0, 1, 1, 0, 0, 1, 1, 1, 1, 1, 0, 1] (bodyOf Tryd.f39)), [(7, (V.ptr 3 0)), (8, (V.ptr 4 0)), (9, (V.ptr 5 0))], 10⟩), (Blk.cells [(V.yld 11)]), (Blk.cells [(vu (z15.2.2.2.1))]), (Blk.cells [(vb true)]), Blk.dfr, (Blk.loop .ready none ⟨106, [11], (subC [1, 1, 0, 0] (bodyOf Tryd.f106)), (subC [1, 1, 0, 1] (bodyOf Tryd.f106)), [(1, (V.ptr 7 0)), (2, (V.ptr 9 0)), (3, (V.ptr 8 0)), (4, (V.ptr 12 0))], 15⟩), (Blk.row (.int .i64) (z15.1) 3 (z15q.1))], []⟩))) y16)))))))) (wkK 18 K (.exit 0) ⟨[(0, (V.yld 16)), (2, (V.ptr 14 0)), (4, (V.row 17 1 (List.length z9x0) z9q0)), (9, (vi z9x8)), (10, (vi z9x9)), (11, (vb (decide (z9x9 < z9x8))))], [(Blk.cells [(vu z9x1), (vu z9x2), (vu z9x3), (vu z9x4), (vu z9x5)]), (Blk.cells [(vi z9x6)]), (Blk.cells [(vu z9x1), (vu z9x2), (vu z9x3), (vu z9x4), (vu z9x5)]), (Blk.cells [(V.fn 42 [] [(V.ptr 1 0)])]), (Blk.cells [(vi 0)]), (Blk.cells [(vb false)]), (Blk.cells [(vu z9x1), (vu z9x2), (vu z9x3), (vu z9x4), (vu z9x5)]), (Blk.cells [(vu z9x1), (vu z9x2), (vu z9x3), (vu z9x4), (vu z9x5)]), (Blk.cells [(vi z9x7)]), (Blk.cells [(vb true)]), Blk.dfr, (Blk.loop .ready none ⟨39, [37], (subC [1, 0, 1, 1, 1, 0, 1, 0, 0, 1, 1, 0, 0, 1, 1, 1, 1, 1, 0, 0] (bodyOf Tryd.f39)), (subC [1, 0, 1, 1, 1, 0, 1, 0, 0, 1, 1, 0, 0, 1, 1, 1, 1, 1, 0, 1] (bodyOf Tryd.f39)), [(7, (V.ptr 3 0)), (8, (V.ptr 4 0)), (9, (V.ptr 5 0))], 10⟩), (Blk.cells [(V.yld 11)]), (Blk.cells [(vu z9x2)]), (Blk.cells [(vb true)]), Blk.dfr, (Blk.loop .ready none ⟨106, [11], (subC [1, 1, 0, 0] (bodyOf Tryd.f106)), (subC [1, 1, 0, 1] (bodyOf Tryd.f106)), [(1, (V.ptr 7 0)), (2, (V.ptr 9 0)), (3, (V.ptr 8 0)), (4, (V.ptr 12 0))], 15⟩), (Blk.row (.int .i64) z9x0 3 z9q0)], []⟩))) := by kernel_rfl
theorem q18_1_step (n k : Nat) (z9x0 : List Int) (z9x1 : Int) (z9x2 : Int) (z9x3 : Int) (z9x4 : Int) (z9x5 : Int) (z9x6 : Int) (z9x7 : Int) (z9x8 : Int) (z9x9 : Int) (z9q0 : Nat) (y10_ : next_Last_l1_Y) (K : Ret → S → Prop) (h : next_Last_l1 (k + 1) (z9x0, z9x1, z9x2, z9x3, z9x4, z9x5, z9x6, z9x7, z9x8, z9x9) y10_) (hK : q18_1_Kp K z9x1 z9x2 z9x3 z9x4 z9x5 z9x6 z9x7 z9q0 y10_) (next : S → Prop) (hnext : ∀ z' s', next_Last_l1 k z' y10_ → q18_1_K K z' z9q0 y10_ → (∃ cc', wk 18 s' (q18_1_st z' z9q0 cc')) → next s') : acode q18_cx 127 (acall q18_cx okT q18_lp (n + 5)) (okT 127) (q18_lp (n + 5) 127) none q18_1_body (iterK (wkK 18 K) next) (q18_1_st (z9x0, z9x1, z9x2, z9x3, z9x4, z9x5, z9x6, z9x7, z9x8, z9x9) z9q0 ()) := by
  refine cast (q18_1_round n z9x0 z9x1 z9x2 z9x3 z9x4 z9x5 z9x6 z9x7 z9x8 z9x9 z9q0 K next).symm ?_
  simp only [next_Last_l1] at h
  refine req_intro rfl ?_
  refine br_both h (fun hb h => ?_) (fun hb h => ?_)
  · refine rqn_intro 12 ?_
    obtain ⟨q, h⟩ := req_of h
    refine req_intro (band (band_l q) (band_r q)) ?_
    obtain ⟨q, h⟩ := req_of h
    refine req_intro q ?_
    refine rqn_intro 9 ?_
    refine ex_both h fun y11 h => ?_
    intro c12 hc12
    refine rqn_intro 4 ?_
    obtain ⟨y16, ry16, h⟩ := h
    refine ⟨rfl, rfl, (z9x0, y11, z9x1, z9x2, z9x3, z9x4, z9x5, z9x6, z9x7, (List.getD z9x0 (Int.toNat (wI ((wI ((((List.length z9x0) : Nat) : Int) - 1)) - z9x9))) 0), (((List.length y11) : Nat) : Int), 0), (z9q0, c12), y16, rfl, ⟨(), wk_of (Or.inr ⟨⟨Or.inl rfl, Or.inl rfl, Or.inl rfl, Or.inl rfl, Or.inl rfl, trivial⟩, ⟨Or.inl rfl, Or.inl rfl, Or.inl rfl, Or.inl rfl, Or.inl rfl, Or.inl rfl, Or.inl rfl, Or.inl rfl, Or.inl rfl, Or.inl rfl, Or.inl rfl, Or.inl rfl, Or.inl rfl, Or.inl rfl, Or.inl rfl, Or.inl rfl, Or.inl rfl, Or.inl rfl, Or.inl rfl, Or.inl rfl, Or.inl rfl, Or.inr (Or.inr (Or.inr ⟨rfl, rfl, rfl, rfl, rfl, rfl, rfl, ⟨Or.inl rfl, Or.inl rfl, Or.inl rfl, trivial⟩⟩)), Or.inl rfl, trivial⟩, rfl, rfl, rfl⟩)⟩, ry16, ?_⟩
    refine sume_both h (fun y16 h => ?_) (fun y16 h => ?_)
    · refine req_intro rfl ?_
      subst h
      refine ⟨_, ?_, hK⟩
      exact wk_of (Or.inr ⟨trivial, ⟨Or.inl rfl, Or.inl rfl, Or.inl rfl, Or.inl rfl, Or.inl rfl, Or.inl rfl, Or.inl rfl, Or.inl rfl, Or.inl rfl, Or.inl rfl, Or.inl rfl, Or.inl rfl, Or.inl rfl, Or.inl rfl, Or.inl rfl, Or.inl rfl, Or.inl rfl, Or.inr (Or.inl rfl), trivial⟩, rfl, rfl, rfl⟩)
    · refine rqn_intro 3 ?_
      exact hnext (z9x0, z9x1, z9x2, z9x3, z9x4, z9x5, z9x6, z9x7, z9x8, (wI (z9x9 + 1))) _ h hK ⟨(), wk_of (Or.inr ⟨⟨Or.inl rfl, Or.inl rfl, Or.inl rfl, Or.inl rfl, Or.inl rfl, trivial⟩, ⟨Or.inl rfl, Or.inl rfl, Or.inl rfl, Or.inl rfl, Or.inl rfl, Or.inl rfl, Or.inl rfl, Or.inl rfl, Or.inl rfl, Or.inl rfl, Or.inl rfl, Or.inl rfl, Or.inl rfl, Or.inl rfl, Or.inl rfl, Or.inl rfl, Or.inl rfl, Or.inl rfl, trivial⟩, rfl, rfl, rfl⟩)⟩
  · subst h
    refine ⟨_, ?_, hK⟩
    exact wk_of (Or.inr ⟨trivial, ⟨Or.inl rfl, Or.inl rfl, Or.inl rfl, Or.inl rfl, Or.inl rfl, Or.inl rfl, Or.inl rfl, Or.inl rfl, Or.inl rfl, Or.inl rfl, Or.inl rfl, Or.inl rfl, Or.inl rfl, Or.inl rfl, Or.inl rfl, Or.inl rfl, Or.inl rfl, Or.inr (Or.inl rfl), trivial⟩, rfl, rfl, rfl⟩)
theorem q18_1_ok (n : Nat) : Owed q18_cx okT 127 q18_lp (n + 5) q18_1_lp := loop_owed (fun z y h => h) fun k zz qq cc yy K h hK next hnext => q18_1_step n k zz.1 zz.2.1 zz.2.2.1 zz.2.2.2.1 zz.2.2.2.2.1 zz.2.2.2.2.2.1 zz.2.2.2.2.2.2.1 zz.2.2.2.2.2.2.2.1 zz.2.2.2.2.2.2.2.2.1 zz.2.2.2.2.2.2.2.2.2 qq yy K h hK next hnext
theorem q18_2_round (n : Nat) (z3x0 : Int) (z3x1 : Int) (z3x2 : Int) (z3x3 : Int) (z3x4 : Int) (z3x5 : Int) (z3x6 : Int) (z3x7 : Int) (K : Ret → S → Prop) (next : S → Prop) : acode q18_cx 39 (acall q18_cx okT q18_lp (n + 7)) (okT 39) (q18_lp (n + 7) 39) none q18_2_body (iterK (wkK 7 K) next) (q18_2_st (z3x0, z3x1, z3x2, z3x3, z3x4, z3x5, z3x6, z3x7) () ()) =
    (req true (br (decide (z3x7 < 2923)) (rqn 16 (∃ y5 : (Int × Int × Int) × Int, (days_At_R (wI (z3x6 - z3x7)) y5) ∧ (rqn 7 (br ((y5.2) == 0) (rqn 3 (∃ y6 : Bool, (cron_Day_R z3x0 z3x1 z3x2 z3x3 z3x4 ((y5.1).1) (((y5.1).2).1) (((y5.1).2).2) y6) ∧ (rqn 3 (br (!y6) (rqn 2 (next ⟨[(1, (vi z3x6)), (2, (vb true)), (4, (V.ptr 2 0)), (7, (V.ptr 3 0)), (8, (V.ptr 4 0)), (9, (V.ptr 5 0)), (10, (V.fn 105 [] [(V.ptr 6 0)])), (19, (vi (wI (z3x7 + 1)))), (20, (vb (decide (z3x7 < 2923)))), (11, (vi z3x7)), (12, (vi (wI (z3x6 - z3x7)))), (25, (vb true)), (32, (vb (!y6)))], [(Blk.cells [(vu z3x0), (vu z3x1), (vu z3x2), (vu z3x3), (vu z3x4)]), (Blk.cells [(vi z3x5)]), (Blk.cells [(vu z3x0), (vu z3x1), (vu z3x2), (vu z3x3), (vu z3x4)]), (Blk.cells [(V.fn 42 [] [(V.ptr 1 0)])]), (Blk.cells [(vi 0)]), (Blk.cells [(vb false)]), (Blk.cells [(vu z3x0), (vu z3x1), (vu z3x2), (vu z3x3), (vu z3x4)])], []⟩)) (rqn 14 (∃ y7 : List Int, (mask_All_R z3x1 y7) ∧ (∀ c8 : Nat, Nat.ble (List.length y7) c8 = true → (rqn 4 (((none : Option Nat) = (none : Option Nat)) ∧ (q18_1_body = q18_1_body) ∧ ∃ z17 : next_Last_l1_Z, ∃ z17q : q18_1_Q, ∃ y18 : next_Last_l1_Y, (18 = 18) ∧ (∃ zc : q18_1_C, wk 18 ⟨[(0, (V.yld 16)), (1, (V.ptr 13 0)), (2, (V.ptr 14 0)), (4, (V.row 17 1 (List.length y7) c8)), (9, (vi (((List.length y7) : Nat) : Int))), (10, (vi 0))], [(Blk.cells [(vu z3x0), (vu z3x1), (vu z3x2), (vu z3x3), (vu z3x4)]), (Blk.cells [(vi z3x5)]), (Blk.cells [(vu z3x0), (vu z3x1), (vu z3x2), (vu z3x3), (vu z3x4)]), (Blk.cells [(V.fn 42 [] [(V.ptr 1 0)])]), (Blk.cells [(vi 0)]), (Blk.cells [(vb false)]), (Blk.cells [(vu z3x0), (vu z3x1), (vu z3x2), (vu z3x3), (vu z3x4)]), (Blk.cells [(vu z3x0), (vu z3x1), (vu z3x2), (vu z3x3), (vu z3x4)]), (Blk.cells [(vi (wI (z3x6 - z3x7)))]), (Blk.cells [(vb true)]), Blk.dfr, (Blk.loop .ready none ⟨39, [37], (subC [1, 0, 1, 1, 1, 0, 1, 0, 0, 1, 1, 0, 0, 1, 1, 1, 1, 1, 0, 0] (bodyOf Tryd.f39)), (subC [1, 0, 1, 1, 1, 0, 1, 0, 0, 1, 1, 0, 0, 1, 1, 1, 1, 1, 0, 1] (bodyOf Tryd.f39)), [(1, (vi z3x6)), (2, (vb true)), (4, (V.ptr 2 0)), (7, (V.ptr 3 0)), (8, (V.ptr 4 0)), (9, (V.ptr 5 0)), (10, (V.fn 105 [] [(V.ptr 6 0)])), (19, (vi z3x7)), (20, (vb (decide (z3x7 < 2923)))), (11, (vi z3x7)), (12, (vi (wI (z3x6 - z3x7)))), (25, (vb true)), (32, (vb (!y6))), (36, (V.fn 106 [] [(V.ptr 7 0), (V.ptr 9 0), (V.ptr 8 0)]))], 10⟩), (Blk.cells [(V.yld 11)]), (Blk.cells [(vu z3x1)]), (Blk.cells [(vb true)]), Blk.dfr, (Blk.loop .ready none ⟨106, [11], (subC [1, 1, 0, 0] (bodyOf Tryd.f106)), (subC [1, 1, 0, 1] (bodyOf Tryd.f106)), [(0, (V.yld 11)), (1, (V.ptr 7 0)), (2, (V.ptr 9 0)), (3, (V.ptr 8 0)), (4, (V.ptr 12 0)), (10, (V.fn 127 [] [(V.ptr 13 0), (V.ptr 14 0)]))], 15⟩), (Blk.row (.int .i64) y7 3 c8)], []⟩ (q18_1_st z17 z17q zc)) ∧ (∃ k, next_Last_l1 k z17 y18) ∧ sume (fun y18 => (wkK 7 K (.exit 0) ⟨[(1, (vi z3x6)), (2, (vb true)), (4, (V.ptr 2 0)), (7, (V.ptr 3 0)), (8, (V.ptr 4 0)), (9, (V.ptr 5 0)), (10, (V.fn 105 [] [(V.ptr 6 0)])), (19, (vi z3x7)), (20, (vb (decide (z3x7 < 2923)))), (11, (vi z3x7)), (12, (vi (wI (z3x6 - z3x7)))), (25, (vb true)), (32, (vb (!y6))), (36, (V.fn 106 [] [(V.ptr 7 0), (V.ptr 9 0), (V.ptr 8 0)]))], [(Blk.cells [(vu (z17.2.1)), (vu (z17.2.2.1)), (vu (z17.2.2.2.1)), (vu (z17.2.2.2.2.1)), (vu (z17.2.2.2.2.2.1))]), (Blk.cells [(vi (z17.2.2.2.2.2.2.1))]), (Blk.cells [(vu (z17.2.1)), (vu (z17.2.2.1)), (vu (z17.2.2.2.1)), (vu (z17.2.2.2.2.1)), (vu (z17.2.2.2.2.2.1))]), (Blk.cells [(V.fn 42 [] [(V.ptr 1 0)])]), (Blk.cells [(vi y18)]), (Blk.cells [(vb true)]), (Blk.cells [(vu (z17.2.1)), (vu (z17.2.2.1)), (vu (z17.2.2.2.1)), (vu (z17.2.2.2.2.1)), (vu (z17.2.2.2.2.2.1))]), (Blk.cells [(vu (z17.2.1)), (vu (z17.2.2.1)), (vu (z17.2.2.2.1)), (vu (z17.2.2.2.2.1)), (vu (z17.2.2.2.2.2.1))]), (Blk.cells [(vi (z17.2.2.2.2.2.2.2.1))]), (Blk.cells [(vb true)]), Blk.dfr, Blk.dead], [10]⟩)) (fun y18 => (rqn 2 (next ⟨[(1, (vi z3x6)), (2, (vb true)), (4, (V.ptr 2 0)), (7, (V.ptr 3 0)), (8, (V.ptr 4 0)), (9, (V.ptr 5 0)), (10, (V.fn 105 [] [(V.ptr 6 0)])), (19, (vi (wI (z3x7 + 1)))), (20, (vb (decide (z3x7 < 2923)))), (11, (vi z3x7)), (12, (vi (wI (z3x6 - z3x7)))), (25, (vb true)), (32, (vb (!y6))), (36, (V.fn 106 [] [(V.ptr 7 0), (V.ptr 9 0), (V.ptr 8 0)]))], [(Blk.cells [(vu (z17.2.1)), (vu (z17.2.2.1)), (vu (z17.2.2.2.1)), (vu (z17.2.2.2.2.1)), (vu (z17.2.2.2.2.2.1))]), (Blk.cells [(vi (z17.2.2.2.2.2.2.1))]), (Blk.cells [(vu (z17.2.1)), (vu (z17.2.2.1)), (vu (z17.2.2.2.1)), (vu (z17.2.2.2.2.1)), (vu (z17.2.2.2.2.2.1))]), (Blk.cells [(V.fn 42 [] [(V.ptr 1 0)])]), (Blk.cells [(vi 0)]), (Blk.cells [(vb false)]), (Blk.cells [(vu (z17.2.1)), (vu (z17.2.2.1)), (vu (z17.2.2.2.1)), (vu (z17.2.2.2.2.1)), (vu (z17.2.2.2.2.2.1))]), (Blk.cells [(vu (z17.2.1)), (vu (z17.2.2.1)), (vu (z17.2.2.2.1)), (vu (z17.2.2.2.2.1)), (vu (z17.2.2.2.2.2.1))]), (Blk.cells [(vi (z17.2.2.2.2.2.2.2.1))]), (Blk.cells [(vb true)]), Blk.dfr, Blk.dead], [10]⟩))) y18))))))))) (rqn 5 (next ⟨[(1, (vi z3x6)), (2, (vb true)), (4, (V.ptr 2 0)), (7, (V.ptr 3 0)), (8, (V.ptr 4 0)), (9, (V.ptr 5 0)), (10, (V.fn 105 [] [(V.ptr 6 0)])), (19, (vi (wI (z3x7 + 1)))), (20, (vb (decide (z3x7 < 2923)))), (11, (vi z3x7)), (12, (vi (wI (z3x6 - z3x7)))), (25, (vb true)), (32, (vb true))], [(Blk.cells [(vu z3x0), (vu z3x1), (vu z3x2), (vu z3x3), (vu z3x4)]), (Blk.cells [(vi z3x5)]), (Blk.cells [(vu z3x0), (vu z3x1), (vu z3x2), (vu z3x3), (vu z3x4)]), (Blk.cells [(V.fn 42 [] [(V.ptr 1 0)])]), (Blk.cells [(vi 0)]), (Blk.cells [(vb false)]), (Blk.cells [(vu z3x0), (vu z3x1), (vu z3x2), (vu z3x3), (vu z3x4)])], []⟩)))))) (wkK 7 K (.exit 0) ⟨[(1, (vi z3x6)), (2, (vb true)), (4, (V.ptr 2 0)), (7, (V.ptr 3 0)), (8, (V.ptr 4 0)), (9, (V.ptr 5 0)), (10, (V.fn 105 [] [(V.ptr 6 0)])), (19, (vi z3x7)), (20, (vb (decide (z3x7 < 2923))))], [(Blk.cells [(vu z3x0), (vu z3x1), (vu z3x2), (vu z3x3), (vu z3x4)]), (Blk.cells [(vi z3x5)]), (Blk.cells [(vu z3x0), (vu z3x1), (vu z3x2), (vu z3x3), (vu z3x4)]), (Blk.cells [(V.fn 42 [] [(V.ptr 1 0)])]), (Blk.cells [(vi 0)]), (Blk.cells [(vb false)]), (Blk.cells [(vu z3x0), (vu z3x1), (vu z3x2), (vu z3x3), (vu z3x4)])], []⟩))) := by kernel_rfl
theorem q18_2_step (n k : Nat) (z3x0 : Int) (z3x1 : Int) (z3x2 : Int) (z3x3 : Int) (z3x4 : Int) (z3x5 : Int) (z3x6 : Int) (z3x7 : Int) (y4_ : next_Last_l2_Y) (K : Ret → S → Prop) (h : next_Last_l2 (k + 1) (z3x0, z3x1, z3x2, z3x3, z3x4, z3x5, z3x6, z3x7) y4_) (hK : q18_2_Kp K z3x0 z3x1 z3x2 z3x3 z3x4 z3x5 () y4_) (next : S → Prop) (hnext : ∀ z' s', next_Last_l2 k z' y4_ → q18_2_K K z' () y4_ → (∃ cc', wk 7 s' (q18_2_st z' () cc')) → next s') : acode q18_cx 39 (acall q18_cx okT q18_lp (n + 7)) (okT 39) (q18_lp (n + 7) 39) none q18_2_body (iterK (wkK 7 K) next) (q18_2_st (z3x0, z3x1, z3x2, z3x3, z3x4, z3x5, z3x6, z3x7) () ()) := by
  refine cast (q18_2_round n z3x0 z3x1 z3x2 z3x3 z3x4 z3x5 z3x6 z3x7 K next).symm ?_
  simp only [next_Last_l2] at h
  refine req_intro rfl ?_
  refine br_both h (fun hb h => ?_) (fun hb h => ?_)
  · refine rqn_intro 16 ?_
    refine ex_both h fun y5 h => ?_
    refine rqn_intro 7 ?_
    refine br_both h (fun hb h => ?_) (fun hb h => ?_)
    · refine rqn_intro 3 ?_
      refine ex_both h fun y6 h => ?_
      refine rqn_intro 3 ?_
      refine br_both h (fun hb h => ?_) (fun hb h => ?_)
      · refine rqn_intro 2 ?_
        exact hnext (z3x0, z3x1, z3x2, z3x3, z3x4, z3x5, z3x6, (wI (z3x7 + 1))) _ h hK ⟨(), wk_of (Or.inr ⟨⟨Or.inl rfl, Or.inl rfl, Or.inl rfl, Or.inl rfl, Or.inl rfl, Or.inl rfl, Or.inl rfl, Or.inl rfl, trivial⟩, ⟨Or.inl rfl, Or.inl rfl, Or.inl rfl, Or.inl rfl, Or.inl rfl, Or.inl rfl, Or.inl rfl, trivial⟩, rfl, rfl, rfl⟩)⟩
      · refine rqn_intro 14 ?_
        refine ex_both h fun y7 h => ?_
        intro c8 hc8
        refine rqn_intro 4 ?_
        obtain ⟨y18, ry18, h⟩ := h
        refine ⟨rfl, rfl, (y7, z3x0, z3x1, z3x2, z3x3, z3x4, z3x5, (wI (z3x6 - z3x7)), (((List.length y7) : Nat) : Int), 0), c8, y18, rfl, ⟨(), wk_of (Or.inr ⟨⟨Or.inl rfl, Or.inl rfl, Or.inl rfl, Or.inl rfl, Or.inl rfl, trivial⟩, ⟨Or.inl rfl, Or.inl rfl, Or.inl rfl, Or.inl rfl, Or.inl rfl, Or.inl rfl, Or.inl rfl, Or.inl rfl, Or.inl rfl, Or.inl rfl, Or.inl rfl, Or.inr (Or.inr (Or.inr ⟨rfl, rfl, rfl, rfl, rfl, rfl, rfl, ⟨Or.inl rfl, Or.inl rfl, Or.inl rfl, trivial⟩⟩)), Or.inl rfl, Or.inl rfl, Or.inl rfl, Or.inl rfl, Or.inr (Or.inr (Or.inr ⟨rfl, rfl, rfl, rfl, rfl, rfl, rfl, ⟨Or.inl rfl, Or.inl rfl, Or.inl rfl, Or.inl rfl, trivial⟩⟩)), Or.inl rfl, trivial⟩, rfl, rfl, rfl⟩)⟩, ry18, ?_⟩
        refine sume_both h (fun y18 h => ?_) (fun y18 h => ?_)
        · subst h
          refine ⟨_, ?_, hK⟩
          exact ⟨_, ⟨[(8, (V.ptr 4 0)), (9, (V.ptr 5 0))], [(Blk.cells [(vu z3x0), (vu z3x1), (vu z3x2), (vu z3x3), (vu z3x4)]), (Blk.cells [(vi z3x5)]), Blk.dead, Blk.dead, (Blk.cells [(vi y18)]), (Blk.cells [(vb true)]), Blk.dead, Blk.dead, Blk.dead, Blk.dead, Blk.dead, Blk.dead], []⟩, ⟨[10], rfl, rfl⟩, Or.inr ⟨[0, 1, 2, 3, 4, 5, 6, 0, 0, 0, 0, 0], rfl, rfl, rfl, rfl, rfl, ⟨rfl, rfl, trivial⟩, ⟨Or.inr rfl, Or.inr rfl, Or.inl rfl, Or.inl rfl, Or.inr rfl, Or.inr rfl, Or.inl rfl, Or.inl rfl, Or.inl rfl, Or.inl rfl, Or.inl rfl, Or.inl rfl, trivial⟩, rfl, rfl⟩, Or.inr ⟨⟨Or.inl rfl, Or.inl rfl, trivial⟩, ⟨Or.inl rfl, Or.inl rfl, Or.inl rfl, Or.inl rfl, Or.inl rfl, Or.inl rfl, Or.inl rfl, Or.inl rfl, Or.inl rfl, Or.inl rfl, Or.inl rfl, Or.inl rfl, trivial⟩, rfl, rfl, rfl⟩⟩
        · refine rqn_intro 2 ?_
          exact hnext (z3x0, z3x1, z3x2, z3x3, z3x4, z3x5, z3x6, (wI (z3x7 + 1))) _ h hK ⟨(), ⟨_, _, ⟨[10], rfl, rfl⟩, Or.inl rfl, Or.inr ⟨⟨Or.inl rfl, Or.inl rfl, Or.inl rfl, Or.inl rfl, Or.inl rfl, Or.inl rfl, Or.inl rfl, Or.inl rfl, trivial⟩, ⟨Or.inl rfl, Or.inl rfl, Or.inl rfl, Or.inl rfl, Or.inl rfl, Or.inl rfl, Or.inl rfl, trivial⟩, rfl, rfl, rfl⟩⟩⟩
    · refine rqn_intro 5 ?_
      exact hnext (z3x0, z3x1, z3x2, z3x3, z3x4, z3x5, z3x6, (wI (z3x7 + 1))) _ h hK ⟨(), wk_of (Or.inr ⟨⟨Or.inl rfl, Or.inl rfl, Or.inl rfl, Or.inl rfl, Or.inl rfl, Or.inl rfl, Or.inl rfl, Or.inl rfl, trivial⟩, ⟨Or.inl rfl, Or.inl rfl, Or.inl rfl, Or.inl rfl, Or.inl rfl, Or.inl rfl, Or.inl rfl, trivial⟩, rfl, rfl, rfl⟩)⟩
  · subst h
    refine ⟨_, ?_, hK⟩
    exact ⟨_, ⟨[(8, (V.ptr 4 0)), (9, (V.ptr 5 0))], [(Blk.cells [(vu z3x0), (vu z3x1), (vu z3x2), (vu z3x3), (vu z3x4)]), (Blk.cells [(vi z3x5)]), Blk.dead, Blk.dead, (Blk.cells [(vi 0)]), (Blk.cells [(vb false)]), Blk.dead, Blk.dead, Blk.dead, Blk.dead, Blk.dead, Blk.dead], []⟩, ⟨[], rfl, rfl⟩, Or.inr ⟨[0, 1, 2, 3, 4, 5, 6, 0, 0, 0, 0, 0], rfl, rfl, rfl, rfl, rfl, ⟨rfl, rfl, trivial⟩, ⟨Or.inr rfl, Or.inr rfl, Or.inl rfl, Or.inl rfl, Or.inr rfl, Or.inr rfl, Or.inl rfl, Or.inl rfl, Or.inl rfl, Or.inl rfl, Or.inl rfl, Or.inl rfl, trivial⟩, rfl, rfl⟩, Or.inr ⟨⟨Or.inl rfl, Or.inl rfl, trivial⟩, ⟨Or.inl rfl, Or.inl rfl, Or.inl rfl, Or.inl rfl, Or.inl rfl, Or.inl rfl, Or.inl rfl, Or.inl rfl, Or.inl rfl, Or.inl rfl, Or.inl rfl, Or.inl rfl, trivial⟩, rfl, rfl, rfl⟩⟩
theorem q18_2_ok (n : Nat) : Owed q18_cx okT 39 q18_lp (n + 7) q18_2_lp := loop_owed (fun z y h => h) fun k zz qq cc yy K h hK next hnext => q18_2_step n k zz.1 zz.2.1 zz.2.2.1 zz.2.2.2.1 zz.2.2.2.2.1 zz.2.2.2.2.2.1 zz.2.2.2.2.2.2.1 zz.2.2.2.2.2.2.2 yy K h hK next hnext
theorem q18_lpok : LpOk q18_cx okT q18_lp := LpOk_tab ⟨q18_0_ok, q18_1_ok, q18_2_ok, trivial⟩
def next_Last_R (a0 : Int) (a1 : Int) (a2 : Int) (a3 : Int) (a4 : Int) (a5 : Int) (y : Int × Bool) : Prop :=
  (∃ y1 : Int, (next_of_R a5 y1) ∧ (∃ y2 : Int, (cron_Check_R a0 a1 a2 a3 a4 y2) ∧ (br (y2 != 0) ((0, false) = y) (∃ y20 : next_Last_l2_Y, next_Last_l2_L (a0, a1, a2, a3, a4, a5, y1, 0) y20 ∧ (((y20.1), (y20.2)) = y)))))
theorem q18_tree (a0 : Int) (a1 : Int) (a2 : Int) (a3 : Int) (a4 : Int) (a5 : Int) (y : Int × Bool) : acall q18_cx okT q18_lp 60 (.fn 18 [] []) [(V.agg [(V.int .u64 a0), (V.int .u64 a1), (V.int .u64 a2), (V.int .u64 a3), (V.int .u64 a4)]), (V.int .i64 a5)] [] (leafK (.tup (.cons (.int .i64) (.one .bool))) y) =
    (rqn 2 ((req true ((req true ((req true (∃ y1 : Int, (next_of_R a5 y1) ∧ (rqn 3 (∃ y2 : Int, (cron_Check_R a0 a1 a2 a3 a4 y2) ∧ (req true (br (y2 != 0) (an 1 (rqn 2 (req true ((0, false) = y)))) (rqn 6 (((none : Option Nat) = (none : Option Nat)) ∧ (q18_2_body = q18_2_body) ∧ ∃ z19 : next_Last_l2_Z, ∃ z19q : q18_2_Q, ∃ y20 : next_Last_l2_Y, (7 = 7) ∧ (∃ zc : q18_2_C, wk 7 ⟨[(0, (V.agg [(vu a0), (vu a1), (vu a2), (vu a3), (vu a4)])), (1, (vi y1)), (2, (vb true)), (3, (V.fn 42 [] [(V.ptr 1 0)])), (4, (V.ptr 2 0)), (7, (V.ptr 3 0)), (8, (V.ptr 4 0)), (9, (V.ptr 5 0)), (16, (vb (y2 != 0))), (10, (V.fn 105 [] [(V.ptr 6 0)])), (19, (vi 0))], [(Blk.cells [(vu a0), (vu a1), (vu a2), (vu a3), (vu a4)]), (Blk.cells [(vi a5)]), (Blk.cells [(vu a0), (vu a1), (vu a2), (vu a3), (vu a4)]), (Blk.cells [(V.fn 42 [] [(V.ptr 1 0)])]), (Blk.cells [(vi 0)]), (Blk.cells [(vb false)]), (Blk.cells [(vu a0), (vu a1), (vu a2), (vu a3), (vu a4)])], []⟩ (q18_2_st z19 z19q zc)) ∧ (∃ k, next_Last_l2 k z19 y20) ∧ ((req true (an 1 (req true (an 1 (rqn 2 (req true (((y20.1), (y20.2)) = y))))))) ∧ (rqn 2 (an 1 (rqn 2 (req true (((y20.1), (y20.2)) = y)))))))))))))) ∧ (rqn 2 (∃ y21 : Int, (next_of_R a5 y21) ∧ (rqn 2 (∃ y22 : Int, (cron_Check_R a0 a1 a2 a3 a4 y22) ∧ (req true (br (y22 != 0) (an 1 (rqn 2 (req true ((0, false) = y)))) (rqn 6 (((none : Option Nat) = (none : Option Nat)) ∧ (q18_2_body = q18_2_body) ∧ ∃ z23 : next_Last_l2_Z, ∃ z23q : q18_2_Q, ∃ y24 : next_Last_l2_Y, (7 = 7) ∧ (∃ zc : q18_2_C, wk 7 ⟨[(0, (V.agg [(vu a0), (vu a1), (vu a2), (vu a3), (vu a4)])), (1, (vi y21)), (2, (vb true)), (3, (V.fn 42 [] [(V.ptr 1 0)])), (4, (V.ptr 2 0)), (7, (V.ptr 3 0)), (8, (V.ptr 4 0)), (9, (V.ptr 5 0)), (16, (vb (y22 != 0))), (10, (V.fn 105 [] [(V.ptr 6 0)])), (19, (vi 0))], [(Blk.cells [(vu a0), (vu a1), (vu a2), (vu a3), (vu a4)]), (Blk.cells [(vi a5)]), (Blk.cells [(vu a0), (vu a1), (vu a2), (vu a3), (vu a4)]), (Blk.cells [(V.fn 42 [] [(V.ptr 1 0)])]), (Blk.cells [(vi 0)]), (Blk.cells [(vb false)]), (Blk.cells [(vu a0), (vu a1), (vu a2), (vu a3), (vu a4)])], []⟩ (q18_2_st z23 z23q zc)) ∧ (∃ k, next_Last_l2 k z23 y24) ∧ ((req true (an 1 (req true (an 1 (rqn 2 (req true (((y24.1), (y24.2)) = y))))))) ∧ (rqn 2 (an 1 (rqn 2 (req true (((y24.1), (y24.2)) = y)))))))))))))))) ∧ (rqn 3 (∃ y25 : Int, (next_of_R a5 y25) ∧ (rqn 2 (∃ y26 : Int, (cron_Check_R a0 a1 a2 a3 a4 y26) ∧ (req true (br (y26 != 0) (an 1 (rqn 2 (req true ((0, false) = y)))) (rqn 6 (((none : Option Nat) = (none : Option Nat)) ∧ (q18_2_body = q18_2_body) ∧ ∃ z27 : next_Last_l2_Z, ∃ z27q : q18_2_Q, ∃ y28 : next_Last_l2_Y, (7 = 7) ∧ (∃ zc : q18_2_C, wk 7 ⟨[(0, (V.agg [(vu a0), (vu a1), (vu a2), (vu a3), (vu a4)])), (1, (vi y25)), (2, (vb true)), (3, (V.fn 42 [] [(V.ptr 1 0)])), (4, (V.ptr 2 0)), (7, (V.ptr 3 0)), (8, (V.ptr 4 0)), (9, (V.ptr 5 0)), (16, (vb (y26 != 0))), (10, (V.fn 105 [] [(V.ptr 6 0)])), (19, (vi 0))], [(Blk.cells [(vu a0), (vu a1), (vu a2), (vu a3), (vu a4)]), (Blk.cells [(vi a5)]), (Blk.cells [(vu a0), (vu a1), (vu a2), (vu a3), (vu a4)]), (Blk.cells [(V.fn 42 [] [(V.ptr 1 0)])]), (Blk.cells [(vi 0)]), (Blk.cells [(vb false)]), (Blk.cells [(vu a0), (vu a1), (vu a2), (vu a3), (vu a4)])], []⟩ (q18_2_st z27 z27q zc)) ∧ (∃ k, next_Last_l2 k z27 y28) ∧ ((req true (an 1 (req true (an 1 (rqn 2 (req true (((y28.1), (y28.2)) = y))))))) ∧ (rqn 2 (an 1 (rqn 2 (req true (((y28.1), (y28.2)) = y)))))))))))))))) ∧ (req true ((req true ((req true (∃ y29 : Int, (next_of_R a5 y29) ∧ (rqn 3 (∃ y30 : Int, (cron_Check_R a0 a1 a2 a3 a4 y30) ∧ (req true (br (y30 != 0) (an 1 (rqn 2 (req true ((0, false) = y)))) (rqn 6 (((none : Option Nat) = (none : Option Nat)) ∧ (q18_2_body = q18_2_body) ∧ ∃ z31 : next_Last_l2_Z, ∃ z31q : q18_2_Q, ∃ y32 : next_Last_l2_Y, (7 = 7) ∧ (∃ zc : q18_2_C, wk 7 ⟨[(0, (V.agg [(vu a0), (vu a1), (vu a2), (vu a3), (vu a4)])), (1, (vi y29)), (2, (vb true)), (3, (V.fn 42 [] [(V.ptr 1 0)])), (4, (V.ptr 2 0)), (7, (V.ptr 3 0)), (8, (V.ptr 4 0)), (9, (V.ptr 5 0)), (16, (vb (y30 != 0))), (10, (V.fn 105 [] [(V.ptr 6 0)])), (19, (vi 0))], [(Blk.cells [(vu a0), (vu a1), (vu a2), (vu a3), (vu a4)]), (Blk.cells [(vi a5)]), (Blk.cells [(vu a0), (vu a1), (vu a2), (vu a3), (vu a4)]), (Blk.cells [(V.fn 42 [] [(V.ptr 1 0)])]), (Blk.cells [(vi 0)]), (Blk.cells [(vb false)]), (Blk.cells [(vu a0), (vu a1), (vu a2), (vu a3), (vu a4)])], []⟩ (q18_2_st z31 z31q zc)) ∧ (∃ k, next_Last_l2 k z31 y32) ∧ ((req true (an 1 (req true (an 1 (rqn 2 (req true (((y32.1), (y32.2)) = y))))))) ∧ (rqn 2 (an 1 (rqn 2 (req true (((y32.1), (y32.2)) = y)))))))))))))) ∧ (rqn 2 (∃ y33 : Int, (next_of_R a5 y33) ∧ (rqn 2 (∃ y34 : Int, (cron_Check_R a0 a1 a2 a3 a4 y34) ∧ (req true (br (y34 != 0) (an 1 (rqn 2 (req true ((0, false) = y)))) (rqn 6 (((none : Option Nat) = (none : Option Nat)) ∧ (q18_2_body = q18_2_body) ∧ ∃ z35 : next_Last_l2_Z, ∃ z35q : q18_2_Q, ∃ y36 : next_Last_l2_Y, (7 = 7) ∧ (∃ zc : q18_2_C, wk 7 ⟨[(0, (V.agg [(vu a0), (vu a1), (vu a2), (vu a3), (vu a4)])), (1, (vi y33)), (2, (vb true)), (3, (V.fn 42 [] [(V.ptr 1 0)])), (4, (V.ptr 2 0)), (7, (V.ptr 3 0)), (8, (V.ptr 4 0)), (9, (V.ptr 5 0)), (16, (vb (y34 != 0))), (10, (V.fn 105 [] [(V.ptr 6 0)])), (19, (vi 0))], [(Blk.cells [(vu a0), (vu a1), (vu a2), (vu a3), (vu a4)]), (Blk.cells [(vi a5)]), (Blk.cells [(vu a0), (vu a1), (vu a2), (vu a3), (vu a4)]), (Blk.cells [(V.fn 42 [] [(V.ptr 1 0)])]), (Blk.cells [(vi 0)]), (Blk.cells [(vb false)]), (Blk.cells [(vu a0), (vu a1), (vu a2), (vu a3), (vu a4)])], []⟩ (q18_2_st z35 z35q zc)) ∧ (∃ k, next_Last_l2 k z35 y36) ∧ ((req true (an 1 (req true (an 1 (rqn 2 (req true (((y36.1), (y36.2)) = y))))))) ∧ (rqn 2 (an 1 (rqn 2 (req true (((y36.1), (y36.2)) = y)))))))))))))))) ∧ (req true (∃ y37 : Int, (next_of_R a5 y37) ∧ ((rqn 4 (∃ y38 : Int, (cron_Check_R a0 a1 a2 a3 a4 y38) ∧ (req true (br (y38 != 0) (an 1 (rqn 2 (req true ((0, false) = y)))) (rqn 6 (((none : Option Nat) = (none : Option Nat)) ∧ (q18_2_body = q18_2_body) ∧ ∃ z39 : next_Last_l2_Z, ∃ z39q : q18_2_Q, ∃ y40 : next_Last_l2_Y, (7 = 7) ∧ (∃ zc : q18_2_C, wk 7 ⟨[(0, (V.agg [(vu a0), (vu a1), (vu a2), (vu a3), (vu a4)])), (1, (vi y37)), (2, (vb true)), (3, (V.fn 42 [] [(V.ptr 1 0)])), (4, (V.ptr 2 0)), (7, (V.ptr 3 0)), (8, (V.ptr 4 0)), (9, (V.ptr 5 0)), (16, (vb (y38 != 0))), (10, (V.fn 105 [] [(V.ptr 6 0)])), (19, (vi 0))], [(Blk.cells [(vu a0), (vu a1), (vu a2), (vu a3), (vu a4)]), (Blk.cells [(vi a5)]), (Blk.cells [(vu a0), (vu a1), (vu a2), (vu a3), (vu a4)]), (Blk.cells [(V.fn 42 [] [(V.ptr 1 0)])]), (Blk.cells [(vi 0)]), (Blk.cells [(vb false)]), (Blk.cells [(vu a0), (vu a1), (vu a2), (vu a3), (vu a4)])], []⟩ (q18_2_st z39 z39q zc)) ∧ (∃ k, next_Last_l2 k z39 y40) ∧ ((req true (an 1 (req true (an 1 (rqn 2 (req true (((y40.1), (y40.2)) = y))))))) ∧ (rqn 2 (an 1 (rqn 2 (req true (((y40.1), (y40.2)) = y)))))))))))) ∧ (rqn 4 (∃ y41 : Int, (cron_Check_R a0 a1 a2 a3 a4 y41) ∧ (req true (br (y41 != 0) (an 1 (rqn 2 (req true ((0, false) = y)))) (rqn 6 (((none : Option Nat) = (none : Option Nat)) ∧ (q18_2_body = q18_2_body) ∧ ∃ z42 : next_Last_l2_Z, ∃ z42q : q18_2_Q, ∃ y43 : next_Last_l2_Y, (7 = 7) ∧ (∃ zc : q18_2_C, wk 7 ⟨[(0, (V.agg [(vu a0), (vu a1), (vu a2), (vu a3), (vu a4)])), (1, (vi y37)), (2, (vb true)), (3, (V.fn 42 [] [(V.ptr 1 0)])), (4, (V.ptr 2 0)), (7, (V.ptr 3 0)), (8, (V.ptr 4 0)), (9, (V.ptr 5 0)), (16, (vb (y41 != 0))), (10, (V.fn 105 [] [(V.ptr 6 0)])), (19, (vi 0))], [(Blk.cells [(vu a0), (vu a1), (vu a2), (vu a3), (vu a4)]), (Blk.cells [(vi a5)]), (Blk.cells [(vu a0), (vu a1), (vu a2), (vu a3), (vu a4)]), (Blk.cells [(V.fn 42 [] [(V.ptr 1 0)])]), (Blk.cells [(vi 0)]), (Blk.cells [(vb false)]), (Blk.cells [(vu a0), (vu a1), (vu a2), (vu a3), (vu a4)])], []⟩ (q18_2_st z42 z42q zc)) ∧ (∃ k, next_Last_l2 k z42 y43) ∧ ((req true (an 1 (req true (an 1 (rqn 2 (req true (((y43.1), (y43.2)) = y))))))) ∧ (rqn 2 (an 1 (rqn 2 (req true (((y43.1), (y43.2)) = y))))))))))))))) ∧ (req true ((rqn 2 (∃ y44 : Int, (next_of_R a5 y44) ∧ (rqn 2 (∃ y45 : Int, (cron_Check_R a0 a1 a2 a3 a4 y45) ∧ (req true (br (y45 != 0) (an 1 (rqn 2 (req true ((0, false) = y)))) (rqn 6 (((none : Option Nat) = (none : Option Nat)) ∧ (q18_2_body = q18_2_body) ∧ ∃ z46 : next_Last_l2_Z, ∃ z46q : q18_2_Q, ∃ y47 : next_Last_l2_Y, (7 = 7) ∧ (∃ zc : q18_2_C, wk 7 ⟨[(0, (V.agg [(vu a0), (vu a1), (vu a2), (vu a3), (vu a4)])), (1, (vi y44)), (2, (vb true)), (3, (V.fn 42 [] [(V.ptr 1 0)])), (4, (V.ptr 2 0)), (7, (V.ptr 3 0)), (8, (V.ptr 4 0)), (9, (V.ptr 5 0)), (16, (vb (y45 != 0))), (10, (V.fn 105 [] [(V.ptr 6 0)])), (19, (vi 0))], [(Blk.cells [(vu a0), (vu a1), (vu a2), (vu a3), (vu a4)]), (Blk.cells [(vi a5)]), (Blk.cells [(vu a0), (vu a1), (vu a2), (vu a3), (vu a4)]), (Blk.cells [(V.fn 42 [] [(V.ptr 1 0)])]), (Blk.cells [(vi 0)]), (Blk.cells [(vb false)]), (Blk.cells [(vu a0), (vu a1), (vu a2), (vu a3), (vu a4)])], []⟩ (q18_2_st z46 z46q zc)) ∧ (∃ k, next_Last_l2 k z46 y47) ∧ ((req true (an 1 (req true (an 1 (rqn 2 (req true (((y47.1), (y47.2)) = y))))))) ∧ (rqn 2 (an 1 (rqn 2 (req true (((y47.1), (y47.2)) = y)))))))))))))) ∧ (req true (∃ y48 : Int, (next_of_R a5 y48) ∧ (rqn 3 (∃ y49 : Int, (cron_Check_R a0 a1 a2 a3 a4 y49) ∧ (req true (br (y49 != 0) (an 1 (rqn 2 (req true ((0, false) = y)))) (rqn 6 (((none : Option Nat) = (none : Option Nat)) ∧ (q18_2_body = q18_2_body) ∧ ∃ z50 : next_Last_l2_Z, ∃ z50q : q18_2_Q, ∃ y51 : next_Last_l2_Y, (7 = 7) ∧ (∃ zc : q18_2_C, wk 7 ⟨[(0, (V.agg [(vu a0), (vu a1), (vu a2), (vu a3), (vu a4)])), (1, (vi y48)), (2, (vb true)), (3, (V.fn 42 [] [(V.ptr 1 0)])), (4, (V.ptr 2 0)), (7, (V.ptr 3 0)), (8, (V.ptr 4 0)), (9, (V.ptr 5 0)), (16, (vb (y49 != 0))), (10, (V.fn 105 [] [(V.ptr 6 0)])), (19, (vi 0))], [(Blk.cells [(vu a0), (vu a1), (vu a2), (vu a3), (vu a4)]), (Blk.cells [(vi a5)]), (Blk.cells [(vu a0), (vu a1), (vu a2), (vu a3), (vu a4)]), (Blk.cells [(V.fn 42 [] [(V.ptr 1 0)])]), (Blk.cells [(vi 0)]), (Blk.cells [(vb false)]), (Blk.cells [(vu a0), (vu a1), (vu a2), (vu a3), (vu a4)])], []⟩ (q18_2_st z50 z50q zc)) ∧ (∃ k, next_Last_l2 k z50 y51) ∧ ((req true (an 1 (req true (an 1 (rqn 2 (req true (((y51.1), (y51.2)) = y))))))) ∧ (rqn 2 (an 1 (rqn 2 (req true (((y51.1), (y51.2)) = y)))))))))))))))))) ∧ (req true ((rqn 3 (∃ y52 : Int, (next_of_R a5 y52) ∧ (rqn 2 (∃ y53 : Int, (cron_Check_R a0 a1 a2 a3 a4 y53) ∧ (req true (br (y53 != 0) (an 1 (rqn 2 (req true ((0, false) = y)))) (rqn 6 (((none : Option Nat) = (none : Option Nat)) ∧ (q18_2_body = q18_2_body) ∧ ∃ z54 : next_Last_l2_Z, ∃ z54q : q18_2_Q, ∃ y55 : next_Last_l2_Y, (7 = 7) ∧ (∃ zc : q18_2_C, wk 7 ⟨[(0, (V.agg [(vu a0), (vu a1), (vu a2), (vu a3), (vu a4)])), (1, (vi y52)), (2, (vb true)), (3, (V.fn 42 [] [(V.ptr 1 0)])), (4, (V.ptr 2 0)), (7, (V.ptr 3 0)), (8, (V.ptr 4 0)), (9, (V.ptr 5 0)), (16, (vb (y53 != 0))), (10, (V.fn 105 [] [(V.ptr 6 0)])), (19, (vi 0))], [(Blk.cells [(vu a0), (vu a1), (vu a2), (vu a3), (vu a4)]), (Blk.cells [(vi a5)]), (Blk.cells [(vu a0), (vu a1), (vu a2), (vu a3), (vu a4)]), (Blk.cells [(V.fn 42 [] [(V.ptr 1 0)])]), (Blk.cells [(vi 0)]), (Blk.cells [(vb false)]), (Blk.cells [(vu a0), (vu a1), (vu a2), (vu a3), (vu a4)])], []⟩ (q18_2_st z54 z54q zc)) ∧ (∃ k, next_Last_l2 k z54 y55) ∧ ((req true (an 1 (req true (an 1 (rqn 2 (req true (((y55.1), (y55.2)) = y))))))) ∧ (rqn 2 (an 1 (rqn 2 (req true (((y55.1), (y55.2)) = y)))))))))))))) ∧ (req true ((rqn 2 (∃ y56 : Int, (next_of_R a5 y56) ∧ (rqn 2 (∃ y57 : Int, (cron_Check_R a0 a1 a2 a3 a4 y57) ∧ (req true (br (y57 != 0) (an 1 (rqn 2 (req true ((0, false) = y)))) (rqn 6 (((none : Option Nat) = (none : Option Nat)) ∧ (q18_2_body = q18_2_body) ∧ ∃ z58 : next_Last_l2_Z, ∃ z58q : q18_2_Q, ∃ y59 : next_Last_l2_Y, (7 = 7) ∧ (∃ zc : q18_2_C, wk 7 ⟨[(0, (V.agg [(vu a0), (vu a1), (vu a2), (vu a3), (vu a4)])), (1, (vi y56)), (2, (vb true)), (3, (V.fn 42 [] [(V.ptr 1 0)])), (4, (V.ptr 2 0)), (7, (V.ptr 3 0)), (8, (V.ptr 4 0)), (9, (V.ptr 5 0)), (16, (vb (y57 != 0))), (10, (V.fn 105 [] [(V.ptr 6 0)])), (19, (vi 0))], [(Blk.cells [(vu a0), (vu a1), (vu a2), (vu a3), (vu a4)]), (Blk.cells [(vi a5)]), (Blk.cells [(vu a0), (vu a1), (vu a2), (vu a3), (vu a4)]), (Blk.cells [(V.fn 42 [] [(V.ptr 1 0)])]), (Blk.cells [(vi 0)]), (Blk.cells [(vb false)]), (Blk.cells [(vu a0), (vu a1), (vu a2), (vu a3), (vu a4)])], []⟩ (q18_2_st z58 z58q zc)) ∧ (∃ k, next_Last_l2 k z58 y59) ∧ ((req true (an 1 (req true (an 1 (rqn 2 (req true (((y59.1), (y59.2)) = y))))))) ∧ (rqn 2 (an 1 (rqn 2 (req true (((y59.1), (y59.2)) = y)))))))))))))) ∧ (req true (∃ y60 : Int, (next_of_R a5 y60) ∧ (rqn 3 (∃ y61 : Int, (cron_Check_R a0 a1 a2 a3 a4 y61) ∧ (req true (br (y61 != 0) (an 1 (rqn 2 (req true ((0, false) = y)))) (rqn 6 (((none : Option Nat) = (none : Option Nat)) ∧ (q18_2_body = q18_2_body) ∧ ∃ z62 : next_Last_l2_Z, ∃ z62q : q18_2_Q, ∃ y63 : next_Last_l2_Y, (7 = 7) ∧ (∃ zc : q18_2_C, wk 7 ⟨[(0, (V.agg [(vu a0), (vu a1), (vu a2), (vu a3), (vu a4)])), (1, (vi y60)), (2, (vb true)), (3, (V.fn 42 [] [(V.ptr 1 0)])), (4, (V.ptr 2 0)), (7, (V.ptr 3 0)), (8, (V.ptr 4 0)), (9, (V.ptr 5 0)), (16, (vb (y61 != 0))), (10, (V.fn 105 [] [(V.ptr 6 0)])), (19, (vi 0))], [(Blk.cells [(vu a0), (vu a1), (vu a2), (vu a3), (vu a4)]), (Blk.cells [(vi a5)]), (Blk.cells [(vu a0), (vu a1), (vu a2), (vu a3), (vu a4)]), (Blk.cells [(V.fn 42 [] [(V.ptr 1 0)])]), (Blk.cells [(vi 0)]), (Blk.cells [(vb false)]), (Blk.cells [(vu a0), (vu a1), (vu a2), (vu a3), (vu a4)])], []⟩ (q18_2_st z62 z62q zc)) ∧ (∃ k, next_Last_l2 k z62 y63) ∧ ((req true (an 1 (req true (an 1 (rqn 2 (req true (((y63.1), (y63.2)) = y))))))) ∧ (rqn 2 (an 1 (rqn 2 (req true (((y63.1), (y63.2)) = y)))))))))))))))))))) := by kernel_rfl
theorem q18_run (a0 : Int) (a1 : Int) (a2 : Int) (a3 : Int) (a4 : Int) (a5 : Int) (y : Int × Bool) (h : next_Last_R a0 a1 a2 a3 a4 a5 y) : acall q18_cx okT q18_lp 60 (.fn 18 [] []) [(V.agg [(V.int .u64 a0), (V.int .u64 a1), (V.int .u64 a2), (V.int .u64 a3), (V.int .u64 a4)]), (V.int .i64 a5)] [] (leafK (.tup (.cons (.int .i64) (.one .bool))) y) := by
  refine cast (q18_tree a0 a1 a2 a3 a4 a5 y).symm ?_
  unfold next_Last_R at h
  refine rqn_intro 2 ?_
  refine ⟨?_, ?_, ?_⟩
  · refine req_intro rfl ?_
    refine ⟨?_, ?_⟩
    · refine req_intro rfl ?_
      refine ⟨?_, ?_⟩
      · refine req_intro rfl ?_
        refine ex_both h fun y1 h => ?_
        refine rqn_intro 3 ?_
        refine ex_both h fun y2 h => ?_
        refine req_intro rfl ?_
        refine br_both h (fun hb h => ?_) (fun hb h => ?_)
        · refine an_intro 1 ?_
          refine rqn_intro 2 ?_
          exact req_intro rfl h
        · refine rqn_intro 6 ?_
          obtain ⟨y20, ry20, h⟩ := h
          refine ⟨rfl, rfl, (a0, a1, a2, a3, a4, a5, y1, 0), (), y20, rfl, ⟨(), wk_of (Or.inr ⟨⟨Or.inl rfl, Or.inl rfl, Or.inl rfl, Or.inl rfl, Or.inl rfl, Or.inl rfl, Or.inl rfl, Or.inl rfl, trivial⟩, ⟨Or.inl rfl, Or.inl rfl, Or.inl rfl, Or.inl rfl, Or.inl rfl, Or.inl rfl, Or.inl rfl, trivial⟩, rfl, rfl, rfl⟩)⟩, ry20, ?_⟩
          refine ⟨?_, ?_⟩
          · refine req_intro rfl ?_
            refine an_intro 1 ?_
            refine req_intro rfl ?_
            refine an_intro 1 ?_
            refine rqn_intro 2 ?_
            exact req_intro rfl h
          · refine rqn_intro 2 ?_
            refine an_intro 1 ?_
            refine rqn_intro 2 ?_
            exact req_intro rfl h
      · refine rqn_intro 2 ?_
        refine ex_both h fun y21 h => ?_
        refine rqn_intro 2 ?_
        refine ex_both h fun y22 h => ?_
        refine req_intro rfl ?_
        refine br_both h (fun hb h => ?_) (fun hb h => ?_)
        · refine an_intro 1 ?_
          refine rqn_intro 2 ?_
          exact req_intro rfl h
        · refine rqn_intro 6 ?_
          obtain ⟨y24, ry24, h⟩ := h
          refine ⟨rfl, rfl, (a0, a1, a2, a3, a4, a5, y21, 0), (), y24, rfl, ⟨(), wk_of (Or.inr ⟨⟨Or.inl rfl, Or.inl rfl, Or.inl rfl, Or.inl rfl, Or.inl rfl, Or.inl rfl, Or.inl rfl, Or.inl rfl, trivial⟩, ⟨Or.inl rfl, Or.inl rfl, Or.inl rfl, Or.inl rfl, Or.inl rfl, Or.inl rfl, Or.inl rfl, trivial⟩, rfl, rfl, rfl⟩)⟩, ry24, ?_⟩
          refine ⟨?_, ?_⟩
          · refine req_intro rfl ?_
            refine an_intro 1 ?_
            refine req_intro rfl ?_
            refine an_intro 1 ?_
            refine rqn_intro 2 ?_
            exact req_intro rfl h
          · refine rqn_intro 2 ?_
            refine an_intro 1 ?_
            refine rqn_intro 2 ?_
            exact req_intro rfl h
    · refine rqn_intro 3 ?_
      refine ex_both h fun y25 h => ?_
      refine rqn_intro 2 ?_
      refine ex_both h fun y26 h => ?_
      refine req_intro rfl ?_
      refine br_both h (fun hb h => ?_) (fun hb h => ?_)
      · refine an_intro 1 ?_
        refine rqn_intro 2 ?_
        exact req_intro rfl h
      · refine rqn_intro 6 ?_
        obtain ⟨y28, ry28, h⟩ := h
        refine ⟨rfl, rfl, (a0, a1, a2, a3, a4, a5, y25, 0), (), y28, rfl, ⟨(), wk_of (Or.inr ⟨⟨Or.inl rfl, Or.inl rfl, Or.inl rfl, Or.inl rfl, Or.inl rfl, Or.inl rfl, Or.inl rfl, Or.inl rfl, trivial⟩, ⟨Or.inl rfl, Or.inl rfl, Or.inl rfl, Or.inl rfl, Or.inl rfl, Or.inl rfl, Or.inl rfl, trivial⟩, rfl, rfl, rfl⟩)⟩, ry28, ?_⟩
        refine ⟨?_, ?_⟩
        · refine req_intro rfl ?_
          refine an_intro 1 ?_
          refine req_intro rfl ?_
          refine an_intro 1 ?_
          refine rqn_intro 2 ?_
          exact req_intro rfl h
        · refine rqn_intro 2 ?_
          refine an_intro 1 ?_
          refine rqn_intro 2 ?_
          exact req_intro rfl h
  · refine req_intro rfl ?_
    refine ⟨?_, ?_, ?_⟩
    · refine req_intro rfl ?_
      refine ⟨?_, ?_⟩
      · refine req_intro rfl ?_
        refine ex_both h fun y29 h => ?_
        refine rqn_intro 3 ?_
        refine ex_both h fun y30 h => ?_
        refine req_intro rfl ?_
        refine br_both h (fun hb h => ?_) (fun hb h => ?_)
        · refine an_intro 1 ?_
          refine rqn_intro 2 ?_
          exact req_intro rfl h
        · refine rqn_intro 6 ?_
          obtain ⟨y32, ry32, h⟩ := h
          refine ⟨rfl, rfl, (a0, a1, a2, a3, a4, a5, y29, 0), (), y32, rfl, ⟨(), wk_of (Or.inr ⟨⟨Or.inl rfl, Or.inl rfl, Or.inl rfl, Or.inl rfl, Or.inl rfl, Or.inl rfl, Or.inl rfl, Or.inl rfl, trivial⟩, ⟨Or.inl rfl, Or.inl rfl, Or.inl rfl, Or.inl rfl, Or.inl rfl, Or.inl rfl, Or.inl rfl, trivial⟩, rfl, rfl, rfl⟩)⟩, ry32, ?_⟩
          refine ⟨?_, ?_⟩
          · refine req_intro rfl ?_
            refine an_intro 1 ?_
            refine req_intro rfl ?_
            refine an_intro 1 ?_
            refine rqn_intro 2 ?_
            exact req_intro rfl h
          · refine rqn_intro 2 ?_
            refine an_intro 1 ?_
            refine rqn_intro 2 ?_
            exact req_intro rfl h
      · refine rqn_intro 2 ?_
        refine ex_both h fun y33 h => ?_
        refine rqn_intro 2 ?_
        refine ex_both h fun y34 h => ?_
        refine req_intro rfl ?_
        refine br_both h (fun hb h => ?_) (fun hb h => ?_)
        · refine an_intro 1 ?_
          refine rqn_intro 2 ?_
          exact req_intro rfl h
        · refine rqn_intro 6 ?_
          obtain ⟨y36, ry36, h⟩ := h
          refine ⟨rfl, rfl, (a0, a1, a2, a3, a4, a5, y33, 0), (), y36, rfl, ⟨(), wk_of (Or.inr ⟨⟨Or.inl rfl, Or.inl rfl, Or.inl rfl, Or.inl rfl, Or.inl rfl, Or.inl rfl, Or.inl rfl, Or.inl rfl, trivial⟩, ⟨Or.inl rfl, Or.inl rfl, Or.inl rfl, Or.inl rfl, Or.inl rfl, Or.inl rfl, Or.inl rfl, trivial⟩, rfl, rfl, rfl⟩)⟩, ry36, ?_⟩
          refine ⟨?_, ?_⟩
          · refine req_intro rfl ?_
            refine an_intro 1 ?_
            refine req_intro rfl ?_
            refine an_intro 1 ?_
            refine rqn_intro 2 ?_
            exact req_intro rfl h
          · refine rqn_intro 2 ?_
            refine an_intro 1 ?_
            refine rqn_intro 2 ?_
            exact req_intro rfl h
    · refine req_intro rfl ?_
      refine ex_both h fun y37 h => ?_
      refine ⟨?_, ?_⟩
      · refine rqn_intro 4 ?_
        refine ex_both h fun y38 h => ?_
        refine req_intro rfl ?_
        refine br_both h (fun hb h => ?_) (fun hb h => ?_)
        · refine an_intro 1 ?_
          refine rqn_intro 2 ?_
          exact req_intro rfl h
        · refine rqn_intro 6 ?_
          obtain ⟨y40, ry40, h⟩ := h
          refine ⟨rfl, rfl, (a0, a1, a2, a3, a4, a5, y37, 0), (), y40, rfl, ⟨(), wk_of (Or.inr ⟨⟨Or.inl rfl, Or.inl rfl, Or.inl rfl, Or.inl rfl, Or.inl rfl, Or.inl rfl, Or.inl rfl, Or.inl rfl, trivial⟩, ⟨Or.inl rfl, Or.inl rfl, Or.inl rfl, Or.inl rfl, Or.inl rfl, Or.inl rfl, Or.inl rfl, trivial⟩, rfl, rfl, rfl⟩)⟩, ry40, ?_⟩
          refine ⟨?_, ?_⟩
          · refine req_intro rfl ?_
            refine an_intro 1 ?_
            refine req_intro rfl ?_
            refine an_intro 1 ?_
            refine rqn_intro 2 ?_
            exact req_intro rfl h
          · refine rqn_intro 2 ?_
            refine an_intro 1 ?_
            refine rqn_intro 2 ?_
            exact req_intro rfl h
      · refine rqn_intro 4 ?_
        refine ex_both h fun y41 h => ?_
        refine req_intro rfl ?_
        refine br_both h (fun hb h => ?_) (fun hb h => ?_)
        · refine an_intro 1 ?_
          refine rqn_intro 2 ?_
          exact req_intro rfl h
        · refine rqn_intro 6 ?_
          obtain ⟨y43, ry43, h⟩ := h
          refine ⟨rfl, rfl, (a0, a1, a2, a3, a4, a5, y37, 0), (), y43, rfl, ⟨(), wk_of (Or.inr ⟨⟨Or.inl rfl, Or.inl rfl, Or.inl rfl, Or.inl rfl, Or.inl rfl, Or.inl rfl, Or.inl rfl, Or.inl rfl, trivial⟩, ⟨Or.inl rfl, Or.inl rfl, Or.inl rfl, Or.inl rfl, Or.inl rfl, Or.inl rfl, Or.inl rfl, trivial⟩, rfl, rfl, rfl⟩)⟩, ry43, ?_⟩
          refine ⟨?_, ?_⟩
          · refine req_intro rfl ?_
            refine an_intro 1 ?_
            refine req_intro rfl ?_
            refine an_intro 1 ?_
            refine rqn_intro 2 ?_
            exact req_intro rfl h
          · refine rqn_intro 2 ?_
            refine an_intro 1 ?_
            refine rqn_intro 2 ?_
            exact req_intro rfl h
    · refine req_intro rfl ?_
      refine ⟨?_, ?_⟩
      · refine rqn_intro 2 ?_
        refine ex_both h fun y44 h => ?_
        refine rqn_intro 2 ?_
        refine ex_both h fun y45 h => ?_
        refine req_intro rfl ?_
        refine br_both h (fun hb h => ?_) (fun hb h => ?_)
        · refine an_intro 1 ?_
          refine rqn_intro 2 ?_
          exact req_intro rfl h
        · refine rqn_intro 6 ?_
          obtain ⟨y47, ry47, h⟩ := h
          refine ⟨rfl, rfl, (a0, a1, a2, a3, a4, a5, y44, 0), (), y47, rfl, ⟨(), wk_of (Or.inr ⟨⟨Or.inl rfl, Or.inl rfl, Or.inl rfl, Or.inl rfl, Or.inl rfl, Or.inl rfl, Or.inl rfl, Or.inl rfl, trivial⟩, ⟨Or.inl rfl, Or.inl rfl, Or.inl rfl, Or.inl rfl, Or.inl rfl, Or.inl rfl, Or.inl rfl, trivial⟩, rfl, rfl, rfl⟩)⟩, ry47, ?_⟩
          refine ⟨?_, ?_⟩
          · refine req_intro rfl ?_
            refine an_intro 1 ?_
            refine req_intro rfl ?_
            refine an_intro 1 ?_
            refine rqn_intro 2 ?_
            exact req_intro rfl h
          · refine rqn_intro 2 ?_
            refine an_intro 1 ?_
            refine rqn_intro 2 ?_
            exact req_intro rfl h
      · refine req_intro rfl ?_
        refine ex_both h fun y48 h => ?_
        refine rqn_intro 3 ?_
        refine ex_both h fun y49 h => ?_
        refine req_intro rfl ?_
        refine br_both h (fun hb h => ?_) (fun hb h => ?_)
        · refine an_intro 1 ?_
          refine rqn_intro 2 ?_
          exact req_intro rfl h
        · refine rqn_intro 6 ?_
          obtain ⟨y51, ry51, h⟩ := h
          refine ⟨rfl, rfl, (a0, a1, a2, a3, a4, a5, y48, 0), (), y51, rfl, ⟨(), wk_of (Or.inr ⟨⟨Or.inl rfl, Or.inl rfl, Or.inl rfl, Or.inl rfl, Or.inl rfl, Or.inl rfl, Or.inl rfl, Or.inl rfl, trivial⟩, ⟨Or.inl rfl, Or.inl rfl, Or.inl rfl, Or.inl rfl, Or.inl rfl, Or.inl rfl, Or.inl rfl, trivial⟩, rfl, rfl, rfl⟩)⟩, ry51, ?_⟩
          refine ⟨?_, ?_⟩
          · refine req_intro rfl ?_
            refine an_intro 1 ?_
            refine req_intro rfl ?_
            refine an_intro 1 ?_
            refine rqn_intro 2 ?_
            exact req_intro rfl h
          · refine rqn_intro 2 ?_
            refine an_intro 1 ?_
            refine rqn_intro 2 ?_
            exact req_intro rfl h
  · refine req_intro rfl ?_
    refine ⟨?_, ?_⟩
    · refine rqn_intro 3 ?_
      refine ex_both h fun y52 h => ?_
      refine rqn_intro 2 ?_
      refine ex_both h fun y53 h => ?_
      refine req_intro rfl ?_
      refine br_both h (fun hb h => ?_) (fun hb h => ?_)
      · refine an_intro 1 ?_
        refine rqn_intro 2 ?_
        exact req_intro rfl h
      · refine rqn_intro 6 ?_
        obtain ⟨y55, ry55, h⟩ := h
        refine ⟨rfl, rfl, (a0, a1, a2, a3, a4, a5, y52, 0), (), y55, rfl, ⟨(), wk_of (Or.inr ⟨⟨Or.inl rfl, Or.inl rfl, Or.inl rfl, Or.inl rfl, Or.inl rfl, Or.inl rfl, Or.inl rfl, Or.inl rfl, trivial⟩, ⟨Or.inl rfl, Or.inl rfl, Or.inl rfl, Or.inl rfl, Or.inl rfl, Or.inl rfl, Or.inl rfl, trivial⟩, rfl, rfl, rfl⟩)⟩, ry55, ?_⟩
        refine ⟨?_, ?_⟩
        · refine req_intro rfl ?_
          refine an_intro 1 ?_
          refine req_intro rfl ?_
          refine an_intro 1 ?_
          refine rqn_intro 2 ?_
          exact req_intro rfl h
        · refine rqn_intro 2 ?_
          refine an_intro 1 ?_
          refine rqn_intro 2 ?_
          exact req_intro rfl h
    · refine req_intro rfl ?_
      refine ⟨?_, ?_⟩
      · refine rqn_intro 2 ?_
        refine ex_both h fun y56 h => ?_
        refine rqn_intro 2 ?_
        refine ex_both h fun y57 h => ?_
        refine req_intro rfl ?_
        refine br_both h (fun hb h => ?_) (fun hb h => ?_)
        · refine an_intro 1 ?_
          refine rqn_intro 2 ?_
          exact req_intro rfl h
        · refine rqn_intro 6 ?_
          obtain ⟨y59, ry59, h⟩ := h
          refine ⟨rfl, rfl, (a0, a1, a2, a3, a4, a5, y56, 0), (), y59, rfl, ⟨(), wk_of (Or.inr ⟨⟨Or.inl rfl, Or.inl rfl, Or.inl rfl, Or.inl rfl, Or.inl rfl, Or.inl rfl, Or.inl rfl, Or.inl rfl, trivial⟩, ⟨Or.inl rfl, Or.inl rfl, Or.inl rfl, Or.inl rfl, Or.inl rfl, Or.inl rfl, Or.inl rfl, trivial⟩, rfl, rfl, rfl⟩)⟩, ry59, ?_⟩
          refine ⟨?_, ?_⟩
          · refine req_intro rfl ?_
            refine an_intro 1 ?_
            refine req_intro rfl ?_
            refine an_intro 1 ?_
            refine rqn_intro 2 ?_
            exact req_intro rfl h
          · refine rqn_intro 2 ?_
            refine an_intro 1 ?_
            refine rqn_intro 2 ?_
            exact req_intro rfl h
      · refine req_intro rfl ?_
        refine ex_both h fun y60 h => ?_
        refine rqn_intro 3 ?_
        refine ex_both h fun y61 h => ?_
        refine req_intro rfl ?_
        refine br_both h (fun hb h => ?_) (fun hb h => ?_)
        · refine an_intro 1 ?_
          refine rqn_intro 2 ?_
          exact req_intro rfl h
        · refine rqn_intro 6 ?_
          obtain ⟨y63, ry63, h⟩ := h
          refine ⟨rfl, rfl, (a0, a1, a2, a3, a4, a5, y60, 0), (), y63, rfl, ⟨(), wk_of (Or.inr ⟨⟨Or.inl rfl, Or.inl rfl, Or.inl rfl, Or.inl rfl, Or.inl rfl, Or.inl rfl, Or.inl rfl, Or.inl rfl, trivial⟩, ⟨Or.inl rfl, Or.inl rfl, Or.inl rfl, Or.inl rfl, Or.inl rfl, Or.inl rfl, Or.inl rfl, trivial⟩, rfl, rfl, rfl⟩)⟩, ry63, ?_⟩
          refine ⟨?_, ?_⟩
          · refine req_intro rfl ?_
            refine an_intro 1 ?_
            refine req_intro rfl ?_
            refine an_intro 1 ?_
            refine rqn_intro 2 ?_
            exact req_intro rfl h
          · refine rqn_intro 2 ?_
            refine an_intro 1 ?_
            refine rqn_intro 2 ?_
            exact req_intro rfl h
theorem next_Last_ok : FxOk Tryd.prog gsT 18 (.cons (.agg (.cons (.int .u64) (.cons (.int .u64) (.cons (.int .u64) (.cons (.int .u64) (.one (.int .u64))))))) (.one (.int .i64))) (.tup (.cons (.int .i64) (.one .bool))) fun x y => next_Last_R (x.1.1) (x.1.2.1) (x.1.2.2.1) (x.1.2.2.2.1) (x.1.2.2.2.2) (x.2) y := fx_of (c := q18_cx) (ty_ok rfl) (eq_ok rfl) q18_fns follows_ok (ok := okT) (lp := q18_lp) (n := 60) q18_lpok (enters Tryd.func18 (by kernel_rfl) rfl) (fun y => ⟨_, rfl⟩) fun x y h => q18_run _ _ _ _ _ _ y h
noncomputable def q32_cx : Cx := ⟨tyT, [(17, .fx (.cons (.agg (.cons (.int .u64) (.cons (.int .u64) (.cons (.int .u64) (.cons (.int .u64) (.one (.int .u64))))))) (.one (.int .i64))) (.tup (.cons (.int .i64) (.one .bool))) fun x y => next_Next_R (x.1.1) (x.1.2.1) (x.1.2.2.1) (x.1.2.2.2.1) (x.1.2.2.2.2) (x.2) y),
  (32, .body Tryd.f32),
  (33, .fx (.one (.agg (.cons (.int .u32) (.cons .bool (.cons (.int .u64) (.cons (.int .u64) (.cons (.int .u64) (.cons (.int .u64) (.cons (.int .u64) (.cons (.int .i64) (.cons (.int .i64) (.cons (.int .i64) (.one (.int .i64)))))))))))))) (.int .i64) fun x y => job_Check_R (x.1) (x.2.1) (x.2.2.1) (x.2.2.2.1) (x.2.2.2.2.1) (x.2.2.2.2.2.1) (x.2.2.2.2.2.2.1) (x.2.2.2.2.2.2.2.1) (x.2.2.2.2.2.2.2.2.1) (x.2.2.2.2.2.2.2.2.2.1) (x.2.2.2.2.2.2.2.2.2.2) y),
  (69, .body Tryd.f69),
  (89, .body Tryd.f89),
  (90, .body Tryd.f90),
  (115, .body Tryd.f115),
  (116, .body Tryd.f116),
  (118, .body Tryd.f118)], gsT, eqT⟩
theorem q32_fns : FnsOk Tryd.prog q32_cx := Fns_assoc ⟨next_Next_ok, body_ent Tryd.func32 (by kernel_rfl) (by kernel_rfl), job_Check_ok, body_ent Tryd.func69 (by kernel_rfl) (by kernel_rfl), body_ent Tryd.func89 (by kernel_rfl) (by kernel_rfl), body_ent Tryd.func90 (by kernel_rfl) (by kernel_rfl), body_ent Tryd.func115 (by kernel_rfl) (by kernel_rfl), body_ent Tryd.func116 (by kernel_rfl) (by kernel_rfl), body_ent Tryd.func118 (by kernel_rfl) (by kernel_rfl), trivial⟩
def job_First_R (a0 : Int) (a1 : Bool) (a2 : Int) (a3 : Int) (a4 : Int) (a5 : Int) (a6 : Int) (a7 : Int) (a8 : Int) (a9 : Int) (a10 : Int) (a11 : Int) (y : Int × Bool) : Prop :=
  (∃ y1 : Int, (job_Check_R a0 a1 a2 a3 a4 a5 a6 a7 a8 a9 a10 y1) ∧ (br (y1 != 0) ((0, false) = y) (br a1 (br (!(decide (a7 > a11))) ((0, false) = y) ((a7, true) = y)) (∃ y2 : Int × Bool, (next_Next_R a2 a3 a4 a5 a6 a11 y2) ∧ (y2 = y)))))
theorem q32_tree (a0 : Int) (a1 : Bool) (a2 : Int) (a3 : Int) (a4 : Int) (a5 : Int) (a6 : Int) (a7 : Int) (a8 : Int) (a9 : Int) (a10 : Int) (a11 : Int) (y : Int × Bool) : acall q32_cx okT lpT 60 (.fn 32 [] []) [(V.agg [(V.int .u32 a0), (V.bool a1), (V.int .u64 a2), (V.int .u64 a3), (V.int .u64 a4), (V.int .u64 a5), (V.int .u64 a6), (V.int .i64 a7), (V.int .i64 a8), (V.int .i64 a9), (V.int .i64 a10)]), (V.int .i64 a11)] [] (leafK (.tup (.cons (.int .i64) (.one .bool))) y) =
    (rqn 6 (∃ y1 : Int, (job_Check_R a0 a1 a2 a3 a4 a5 a6 a7 a8 a9 a10 y1) ∧ (req true (br (y1 != 0) (rqn 10 (req true ((0, false) = y))) (rqn 2 (br a1 (rqn 25 (br (!(decide (a7 > a11))) (rqn 10 (req true ((0, false) = y))) (rqn 11 (req true ((a7, true) = y))))) (rqn 19 (∃ y2 : Int × Bool, (next_Next_R a2 a3 a4 a5 a6 a11 y2) ∧ (rqn 8 (req true (y2 = y))))))))))) := by kernel_rfl
theorem q32_run (a0 : Int) (a1 : Bool) (a2 : Int) (a3 : Int) (a4 : Int) (a5 : Int) (a6 : Int) (a7 : Int) (a8 : Int) (a9 : Int) (a10 : Int) (a11 : Int) (y : Int × Bool) (h : job_First_R a0 a1 a2 a3 a4 a5 a6 a7 a8 a9 a10 a11 y) : acall q32_cx okT lpT 60 (.fn 32 [] []) [(V.agg [(V.int .u32 a0), (V.bool a1), (V.int .u64 a2), (V.int .u64 a3), (V.int .u64 a4), (V.int .u64 a5), (V.int .u64 a6), (V.int .i64 a7), (V.int .i64 a8), (V.int .i64 a9), (V.int .i64 a10)]), (V.int .i64 a11)] [] (leafK (.tup (.cons (.int .i64) (.one .bool))) y) := by
  refine cast (q32_tree a0 a1 a2 a3 a4 a5 a6 a7 a8 a9 a10 a11 y).symm ?_
  unfold job_First_R at h
  refine rqn_intro 6 ?_
  refine ex_both h fun y1 h => ?_
  refine req_intro rfl ?_
  refine br_both h (fun hb h => ?_) (fun hb h => ?_)
  · refine rqn_intro 10 ?_
    exact req_intro rfl h
  · refine rqn_intro 2 ?_
    refine br_both h (fun hb h => ?_) (fun hb h => ?_)
    · refine rqn_intro 25 ?_
      refine br_both h (fun hb h => ?_) (fun hb h => ?_)
      · refine rqn_intro 10 ?_
        exact req_intro rfl h
      · refine rqn_intro 11 ?_
        exact req_intro rfl h
    · refine rqn_intro 19 ?_
      refine ex_both h fun y2 h => ?_
      refine rqn_intro 8 ?_
      exact req_intro rfl h
theorem job_First_ok : FxOk Tryd.prog gsT 32 (.cons (.agg (.cons (.int .u32) (.cons .bool (.cons (.int .u64) (.cons (.int .u64) (.cons (.int .u64) (.cons (.int .u64) (.cons (.int .u64) (.cons (.int .i64) (.cons (.int .i64) (.cons (.int .i64) (.one (.int .i64))))))))))))) (.one (.int .i64))) (.tup (.cons (.int .i64) (.one .bool))) fun x y => job_First_R (x.1.1) (x.1.2.1) (x.1.2.2.1) (x.1.2.2.2.1) (x.1.2.2.2.2.1) (x.1.2.2.2.2.2.1) (x.1.2.2.2.2.2.2.1) (x.1.2.2.2.2.2.2.2.1) (x.1.2.2.2.2.2.2.2.2.1) (x.1.2.2.2.2.2.2.2.2.2.1) (x.1.2.2.2.2.2.2.2.2.2.2) (x.2) y := fx_of (c := q32_cx) (ty_ok rfl) (eq_ok rfl) q32_fns follows_ok (ok := okT) (lp := lpT) (n := 60) lp_ok (enters Tryd.func32 (by kernel_rfl) rfl) (fun y => ⟨_, rfl⟩) fun x y h => q32_run _ _ _ _ _ _ _ _ _ _ _ _ y h
noncomputable def q59_cx : Cx := ⟨tyT, [(32, .fx (.cons (.agg (.cons (.int .u32) (.cons .bool (.cons (.int .u64) (.cons (.int .u64) (.cons (.int .u64) (.cons (.int .u64) (.cons (.int .u64) (.cons (.int .i64) (.cons (.int .i64) (.cons (.int .i64) (.one (.int .i64))))))))))))) (.one (.int .i64))) (.tup (.cons (.int .i64) (.one .bool))) fun x y => job_First_R (x.1.1) (x.1.2.1) (x.1.2.2.1) (x.1.2.2.2.1) (x.1.2.2.2.2.1) (x.1.2.2.2.2.2.1) (x.1.2.2.2.2.2.2.1) (x.1.2.2.2.2.2.2.2.1) (x.1.2.2.2.2.2.2.2.2.1) (x.1.2.2.2.2.2.2.2.2.2.1) (x.1.2.2.2.2.2.2.2.2.2.2) (x.2) y),
  (59, .body Tryd.f59)], gsT, eqT⟩
theorem q59_fns : FnsOk Tryd.prog q59_cx := Fns_assoc ⟨job_First_ok, body_ent Tryd.func59 (by kernel_rfl) (by kernel_rfl), trivial⟩
def table_of_R (a0 : Int) (a1 : Bool) (a2 : Int) (a3 : Int) (a4 : Int) (a5 : Int) (a6 : Int) (a7 : Int) (a8 : Int) (a9 : Int) (a10 : Int) (a11 : Int) (y : Bool) : Prop :=
  (∃ y1 : Int × Bool, (job_First_R a0 a1 a2 a3 a4 a5 a6 a7 a8 a9 a10 (IntKind.wrap .i64 (a11 - 1)) y1) ∧ (br (y1.2) (((y1.1) == a11) = y) (false = y)))
theorem q59_tree (a0 : Int) (a1 : Bool) (a2 : Int) (a3 : Int) (a4 : Int) (a5 : Int) (a6 : Int) (a7 : Int) (a8 : Int) (a9 : Int) (a10 : Int) (a11 : Int) (y : Bool) : acall q59_cx okT lpT 60 (.fn 59 [] []) [(V.agg [(V.int .u32 a0), (V.bool a1), (V.int .u64 a2), (V.int .u64 a3), (V.int .u64 a4), (V.int .u64 a5), (V.int .u64 a6), (V.int .i64 a7), (V.int .i64 a8), (V.int .i64 a9), (V.int .i64 a10)]), (V.int .i64 a11)] [] (leafK .bool y) =
    (rqn 5 (∃ y1 : Int × Bool, (job_First_R a0 a1 a2 a3 a4 a5 a6 a7 a8 a9 a10 (wI (a11 - 1)) y1) ∧ (rqn 7 (br (y1.2) (rqn 5 (req true (((y1.1) == a11) = y))) (rqn 2 (req true (false = y))))))) := by kernel_rfl
theorem q59_run (a0 : Int) (a1 : Bool) (a2 : Int) (a3 : Int) (a4 : Int) (a5 : Int) (a6 : Int) (a7 : Int) (a8 : Int) (a9 : Int) (a10 : Int) (a11 : Int) (y : Bool) (h : table_of_R a0 a1 a2 a3 a4 a5 a6 a7 a8 a9 a10 a11 y) : acall q59_cx okT lpT 60 (.fn 59 [] []) [(V.agg [(V.int .u32 a0), (V.bool a1), (V.int .u64 a2), (V.int .u64 a3), (V.int .u64 a4), (V.int .u64 a5), (V.int .u64 a6), (V.int .i64 a7), (V.int .i64 a8), (V.int .i64 a9), (V.int .i64 a10)]), (V.int .i64 a11)] [] (leafK .bool y) := by
  refine cast (q59_tree a0 a1 a2 a3 a4 a5 a6 a7 a8 a9 a10 a11 y).symm ?_
  unfold table_of_R at h
  refine rqn_intro 5 ?_
  refine ex_both h fun y1 h => ?_
  refine rqn_intro 7 ?_
  refine br_both h (fun hb h => ?_) (fun hb h => ?_)
  · refine rqn_intro 5 ?_
    exact req_intro rfl h
  · refine rqn_intro 2 ?_
    exact req_intro rfl h
theorem table_of_ok : FxOk Tryd.prog gsT 59 (.cons (.agg (.cons (.int .u32) (.cons .bool (.cons (.int .u64) (.cons (.int .u64) (.cons (.int .u64) (.cons (.int .u64) (.cons (.int .u64) (.cons (.int .i64) (.cons (.int .i64) (.cons (.int .i64) (.one (.int .i64))))))))))))) (.one (.int .i64))) .bool fun x y => table_of_R (x.1.1) (x.1.2.1) (x.1.2.2.1) (x.1.2.2.2.1) (x.1.2.2.2.2.1) (x.1.2.2.2.2.2.1) (x.1.2.2.2.2.2.2.1) (x.1.2.2.2.2.2.2.2.1) (x.1.2.2.2.2.2.2.2.2.1) (x.1.2.2.2.2.2.2.2.2.2.1) (x.1.2.2.2.2.2.2.2.2.2.2) (x.2) y := fx_of (c := q59_cx) (ty_ok rfl) (eq_ok rfl) q59_fns follows_ok (ok := okT) (lp := lpT) (n := 60) lp_ok (enters Tryd.func59 (by kernel_rfl) rfl) (fun y => ⟨_, rfl⟩) fun x y h => q59_run _ _ _ _ _ _ _ _ _ _ _ _ y h
noncomputable def q27_cx : Cx := ⟨tyT, [(27, .body Tryd.f27),
  (33, .fx (.one (.agg (.cons (.int .u32) (.cons .bool (.cons (.int .u64) (.cons (.int .u64) (.cons (.int .u64) (.cons (.int .u64) (.cons (.int .u64) (.cons (.int .i64) (.cons (.int .i64) (.cons (.int .i64) (.one (.int .i64)))))))))))))) (.int .i64) fun x y => job_Check_R (x.1) (x.2.1) (x.2.2.1) (x.2.2.2.1) (x.2.2.2.2.1) (x.2.2.2.2.2.1) (x.2.2.2.2.2.2.1) (x.2.2.2.2.2.2.2.1) (x.2.2.2.2.2.2.2.2.1) (x.2.2.2.2.2.2.2.2.2.1) (x.2.2.2.2.2.2.2.2.2.2) y),
  (56, .fx (.one (.agg (.cons (.int .u32) (.cons .bool (.cons (.int .u64) (.cons (.int .u64) (.cons (.int .u64) (.cons (.int .u64) (.cons (.int .u64) (.cons (.int .i64) (.cons (.int .i64) (.cons (.int .i64) (.cons (.int .i64) (.cons .bool (.cons (.int .i64) (.cons (.int .u64) (.cons (.int .i64) (.cons (.int .i64) (.one (.sl (.int .i64))))))))))))))))))))) (.nw (.int .i64) 2) fun x y => table_line_R (x.1) (x.2.1) (x.2.2.1) (x.2.2.2.1) (x.2.2.2.2.1) (x.2.2.2.2.2.1) (x.2.2.2.2.2.2.1) (x.2.2.2.2.2.2.2.1) (x.2.2.2.2.2.2.2.2.1) (x.2.2.2.2.2.2.2.2.2.1) (x.2.2.2.2.2.2.2.2.2.2.1) (x.2.2.2.2.2.2.2.2.2.2.2.1) (x.2.2.2.2.2.2.2.2.2.2.2.2.1) (x.2.2.2.2.2.2.2.2.2.2.2.2.2.1) (x.2.2.2.2.2.2.2.2.2.2.2.2.2.2.1) (x.2.2.2.2.2.2.2.2.2.2.2.2.2.2.2.1) (x.2.2.2.2.2.2.2.2.2.2.2.2.2.2.2.2) y),
  (57, .fx (.one (.sl (.int .i64))) .bool fun x y => table_rise_R x y),
  (58, .fx (.one (.int .i64)) .bool fun x y => times_May_R x y),
  (59, .fx (.cons (.agg (.cons (.int .u32) (.cons .bool (.cons (.int .u64) (.cons (.int .u64) (.cons (.int .u64) (.cons (.int .u64) (.cons (.int .u64) (.cons (.int .i64) (.cons (.int .i64) (.cons (.int .i64) (.one (.int .i64))))))))))))) (.one (.int .i64))) .bool fun x y => table_of_R (x.1.1) (x.1.2.1) (x.1.2.2.1) (x.1.2.2.2.1) (x.1.2.2.2.2.1) (x.1.2.2.2.2.2.1) (x.1.2.2.2.2.2.2.1) (x.1.2.2.2.2.2.2.2.1) (x.1.2.2.2.2.2.2.2.2.1) (x.1.2.2.2.2.2.2.2.2.2.1) (x.1.2.2.2.2.2.2.2.2.2.2) (x.2) y)], gsT, eqT⟩
theorem q27_fns : FnsOk Tryd.prog q27_cx := Fns_assoc ⟨body_ent Tryd.func27 (by kernel_rfl) (by kernel_rfl), job_Check_ok, table_line_ok, table_rise_ok, times_May_ok, table_of_ok, trivial⟩
noncomputable def q27_0_body : Code := subC [1, 0, 1, 1, 1, 1, 1, 0, 1, 0, 0] (bodyOf Tryd.f27)
abbrev table_CheckRow_l0_Z : Type := List Int × Int × Bool × Int × Int × Int × Int × Int × Int × Int × Int × Int × Bool × Int × Int × Int × Int × List Int × Bool × Int × Int
abbrev table_CheckRow_l0_Y : Type := Bool
abbrev q27_0_C : Type := Unit
abbrev q27_0_Q : Type := Nat
noncomputable def q27_0_st (z5 : table_CheckRow_l0_Z) (z5q : q27_0_Q) (z5c : q27_0_C) : S := ⟨[(1, (V.ptr 0 0)), (3, (vb (z5.2.2.2.2.2.2.2.2.2.2.2.2.2.2.2.2.2.2.1))), (78, (V.row 1 1 (List.length (z5.1)) z5q)), (79, (vi (z5.2.2.2.2.2.2.2.2.2.2.2.2.2.2.2.2.2.2.2.1))), (80, (vi (z5.2.2.2.2.2.2.2.2.2.2.2.2.2.2.2.2.2.2.2.2)))], [(Blk.cells [(V.int .u32 (z5.2.1)), (vb (z5.2.2.1)), (vu (z5.2.2.2.1)), (vu (z5.2.2.2.2.1)), (vu (z5.2.2.2.2.2.1)), (vu (z5.2.2.2.2.2.2.1)), (vu (z5.2.2.2.2.2.2.2.1)), (vi (z5.2.2.2.2.2.2.2.2.1)), (vi (z5.2.2.2.2.2.2.2.2.2.1)), (vi (z5.2.2.2.2.2.2.2.2.2.2.1)), (vi (z5.2.2.2.2.2.2.2.2.2.2.2.1)), (vb (z5.2.2.2.2.2.2.2.2.2.2.2.2.1)), (vi (z5.2.2.2.2.2.2.2.2.2.2.2.2.2.1)), (vu (z5.2.2.2.2.2.2.2.2.2.2.2.2.2.2.1)), (vi (z5.2.2.2.2.2.2.2.2.2.2.2.2.2.2.2.1)), (vi (z5.2.2.2.2.2.2.2.2.2.2.2.2.2.2.2.2.1)), (V.sl (.int .i64) (z5.2.2.2.2.2.2.2.2.2.2.2.2.2.2.2.2.2.1) none)]), (Blk.row (.int .i64) (z5.1) 2 z5q)], []⟩
def q27_0_Kp (K : Ret → S → Prop) (z5q : q27_0_Q) (y6 : table_CheckRow_l0_Y) : Prop := K (.exit 0) ⟨[(3, (vb y6))], [Blk.dead, Blk.dead], []⟩
def q27_0_K (K : Ret → S → Prop) (z5 : table_CheckRow_l0_Z) (z5q : q27_0_Q) (y6 : table_CheckRow_l0_Y) : Prop := q27_0_Kp K z5q y6
def table_CheckRow_l0 : Nat → table_CheckRow_l0_Z → table_CheckRow_l0_Y → Prop
  | 0, _, _ => False
  | k + 1, (z5x0, z5x1, z5x2, z5x3, z5x4, z5x5, z5x6, z5x7, z5x8, z5x9, z5x10, z5x11, z5x12, z5x13, z5x14, z5x15, z5x16, z5x17, z5x18, z5x19, z5x20), y6_ => (br (decide (z5x20 < z5x19)) (req ((decide (0 ≤ z5x20)) && (decide (z5x20 < (((List.length z5x0) : Nat) : Int)))) (req (Nat.blt (Int.toNat z5x20) (List.length z5x0)) (br z5x18 (∃ y7 : Bool, (times_May_R (List.getD z5x0 (Int.toNat z5x20) 0) y7) ∧ (br y7 (∃ y8 : Bool, (table_of_R z5x1 z5x2 z5x3 z5x4 z5x5 z5x6 z5x7 z5x8 z5x9 z5x10 z5x11 (List.getD z5x0 (Int.toNat z5x20) 0) y8) ∧ (br (!y8) (y8 = y6_) (table_CheckRow_l0 k (z5x0, z5x1, z5x2, z5x3, z5x4, z5x5, z5x6, z5x7, z5x8, z5x9, z5x10, z5x11, z5x12, z5x13, z5x14, z5x15, z5x16, z5x17, y8, z5x19, (IntKind.wrap .i64 (z5x20 + 1))) y6_))) (false = y6_))) (false = y6_)))) (z5x18 = y6_))
def table_CheckRow_l0_L (z : table_CheckRow_l0_Z) (y : table_CheckRow_l0_Y) : Prop := ∃ k, table_CheckRow_l0 k z y
noncomputable def q27_0_lp : Lp := .auto none q27_0_body (loopG 2 q27_0_st (fun z y => ∃ k, table_CheckRow_l0 k z y) q27_0_K)
noncomputable def q27_lp : Nat → FuncId → Nat → Nat → Lp := lpTab [(27, 7, 2, 1, q27_0_lp)]
theorem q27_0_round (n : Nat) (z5x0 : List Int) (z5x1 : Int) (z5x2 : Bool) (z5x3 : Int) (z5x4 : Int) (z5x5 : Int) (z5x6 : Int) (z5x7 : Int) (z5x8 : Int) (z5x9 : Int) (z5x10 : Int) (z5x11 : Int) (z5x12 : Bool) (z5x13 : Int) (z5x14 : Int) (z5x15 : Int) (z5x16 : Int) (z5x17 : List Int) (z5x18 : Bool) (z5x19 : Int) (z5x20 : Int) (z5q0 : Nat) (K : Ret → S → Prop) (next : S → Prop) : acode q27_cx 27 (acall q27_cx okT q27_lp (n + 1)) (okT 27) (q27_lp (n + 1) 27) none q27_0_body (iterK (wkK 2 K) next) (q27_0_st (z5x0, z5x1, z5x2, z5x3, z5x4, z5x5, z5x6, z5x7, z5x8, z5x9, z5x10, z5x11, z5x12, z5x13, z5x14, z5x15, z5x16, z5x17, z5x18, z5x19, z5x20) z5q0 ()) =
    (req true (br (decide (z5x20 < z5x19)) (req ((decide (0 ≤ z5x20)) && (decide (z5x20 < (((List.length z5x0) : Nat) : Int)))) (req (Nat.blt (Int.toNat z5x20) (List.length z5x0)) (rqn 3 (br z5x18 (rqn 2 (∃ y7 : Bool, (times_May_R (List.getD z5x0 (Int.toNat z5x20) 0) y7) ∧ (rqn 2 (br y7 (rqn 4 (∃ y8 : Bool, (table_of_R z5x1 z5x2 z5x3 z5x4 z5x5 z5x6 z5x7 z5x8 z5x9 z5x10 z5x11 (List.getD z5x0 (Int.toNat z5x20) 0) y8) ∧ (rqn 4 (br (!y8) (wkK 2 K (.exit 0) ⟨[(1, (V.ptr 0 0)), (3, (vb y8)), (78, (V.row 1 1 (List.length z5x0) z5q0)), (79, (vi z5x19)), (80, (vi z5x20)), (81, (vb (decide (z5x20 < z5x19)))), (6, (vi (List.getD z5x0 (Int.toNat z5x20) 0))), (96, (vb (!y8)))], [(Blk.cells [(V.int .u32 z5x1), (vb z5x2), (vu z5x3), (vu z5x4), (vu z5x5), (vu z5x6), (vu z5x7), (vi z5x8), (vi z5x9), (vi z5x10), (vi z5x11), (vb z5x12), (vi z5x13), (vu z5x14), (vi z5x15), (vi z5x16), (V.sl (.int .i64) z5x17 none)]), (Blk.row (.int .i64) z5x0 2 z5q0)], []⟩) (rqn 2 (next ⟨[(1, (V.ptr 0 0)), (3, (vb y8)), (78, (V.row 1 1 (List.length z5x0) z5q0)), (79, (vi z5x19)), (80, (vi (wI (z5x20 + 1)))), (81, (vb (decide (z5x20 < z5x19)))), (6, (vi (List.getD z5x0 (Int.toNat z5x20) 0))), (96, (vb (!y8)))], [(Blk.cells [(V.int .u32 z5x1), (vb z5x2), (vu z5x3), (vu z5x4), (vu z5x5), (vu z5x6), (vu z5x7), (vi z5x8), (vi z5x9), (vi z5x10), (vi z5x11), (vb z5x12), (vi z5x13), (vu z5x14), (vi z5x15), (vi z5x16), (V.sl (.int .i64) z5x17 none)]), (Blk.row (.int .i64) z5x0 2 z5q0)], []⟩)))))) (rqn 4 (wkK 2 K (.exit 0) ⟨[(1, (V.ptr 0 0)), (3, (vb false)), (78, (V.row 1 1 (List.length z5x0) z5q0)), (79, (vi z5x19)), (80, (vi z5x20)), (81, (vb (decide (z5x20 < z5x19)))), (6, (vi (List.getD z5x0 (Int.toNat z5x20) 0))), (96, (vb true))], [(Blk.cells [(V.int .u32 z5x1), (vb z5x2), (vu z5x3), (vu z5x4), (vu z5x5), (vu z5x6), (vu z5x7), (vi z5x8), (vi z5x9), (vi z5x10), (vi z5x11), (vb z5x12), (vi z5x13), (vu z5x14), (vi z5x15), (vi z5x16), (V.sl (.int .i64) z5x17 none)]), (Blk.row (.int .i64) z5x0 2 z5q0)], []⟩)))))) (rqn 6 (wkK 2 K (.exit 0) ⟨[(1, (V.ptr 0 0)), (3, (vb false)), (78, (V.row 1 1 (List.length z5x0) z5q0)), (79, (vi z5x19)), (80, (vi z5x20)), (81, (vb (decide (z5x20 < z5x19)))), (6, (vi (List.getD z5x0 (Int.toNat z5x20) 0))), (96, (vb true))], [(Blk.cells [(V.int .u32 z5x1), (vb z5x2), (vu z5x3), (vu z5x4), (vu z5x5), (vu z5x6), (vu z5x7), (vi z5x8), (vi z5x9), (vi z5x10), (vi z5x11), (vb z5x12), (vi z5x13), (vu z5x14), (vi z5x15), (vi z5x16), (V.sl (.int .i64) z5x17 none)]), (Blk.row (.int .i64) z5x0 2 z5q0)], []⟩)))))) (wkK 2 K (.exit 0) ⟨[(1, (V.ptr 0 0)), (3, (vb z5x18)), (78, (V.row 1 1 (List.length z5x0) z5q0)), (79, (vi z5x19)), (80, (vi z5x20)), (81, (vb (decide (z5x20 < z5x19))))], [(Blk.cells [(V.int .u32 z5x1), (vb z5x2), (vu z5x3), (vu z5x4), (vu z5x5), (vu z5x6), (vu z5x7), (vi z5x8), (vi z5x9), (vi z5x10), (vi z5x11), (vb z5x12), (vi z5x13), (vu z5x14), (vi z5x15), (vi z5x16), (V.sl (.int .i64) z5x17 none)]), (Blk.row (.int .i64) z5x0 2 z5q0)], []⟩))) := by kernel_rfl
theorem q27_0_step (n k : Nat) (z5x0 : List Int) (z5x1 : Int) (z5x2 : Bool) (z5x3 : Int) (z5x4 : Int) (z5x5 : Int) (z5x6 : Int) (z5x7 : Int) (z5x8 : Int) (z5x9 : Int) (z5x10 : Int) (z5x11 : Int) (z5x12 : Bool) (z5x13 : Int) (z5x14 : Int) (z5x15 : Int) (z5x16 : Int) (z5x17 : List Int) (z5x18 : Bool) (z5x19 : Int) (z5x20 : Int) (z5q0 : Nat) (y6_ : table_CheckRow_l0_Y) (K : Ret → S → Prop) (h : table_CheckRow_l0 (k + 1) (z5x0, z5x1, z5x2, z5x3, z5x4, z5x5, z5x6, z5x7, z5x8, z5x9, z5x10, z5x11, z5x12, z5x13, z5x14, z5x15, z5x16, z5x17, z5x18, z5x19, z5x20) y6_) (hK : q27_0_Kp K z5q0 y6_) (next : S → Prop) (hnext : ∀ z' s', table_CheckRow_l0 k z' y6_ → q27_0_K K z' z5q0 y6_ → (∃ cc', wk 2 s' (q27_0_st z' z5q0 cc')) → next s') : acode q27_cx 27 (acall q27_cx okT q27_lp (n + 1)) (okT 27) (q27_lp (n + 1) 27) none q27_0_body (iterK (wkK 2 K) next) (q27_0_st (z5x0, z5x1, z5x2, z5x3, z5x4, z5x5, z5x6, z5x7, z5x8, z5x9, z5x10, z5x11, z5x12, z5x13, z5x14, z5x15, z5x16, z5x17, z5x18, z5x19, z5x20) z5q0 ()) := by
  refine cast (q27_0_round n z5x0 z5x1 z5x2 z5x3 z5x4 z5x5 z5x6 z5x7 z5x8 z5x9 z5x10 z5x11 z5x12 z5x13 z5x14 z5x15 z5x16 z5x17 z5x18 z5x19 z5x20 z5q0 K next).symm ?_
  simp only [table_CheckRow_l0] at h
  refine req_intro rfl ?_
  refine br_both h (fun hb h => ?_) (fun hb h => ?_)
  · obtain ⟨q, h⟩ := req_of h
    refine req_intro (band (band_l q) (band_r q)) ?_
    obtain ⟨q, h⟩ := req_of h
    refine req_intro q ?_
    refine rqn_intro 3 ?_
    refine br_both h (fun hb h => ?_) (fun hb h => ?_)
    · refine rqn_intro 2 ?_
      refine ex_both h fun y7 h => ?_
      refine rqn_intro 2 ?_
      refine br_both h (fun hb h => ?_) (fun hb h => ?_)
      · refine rqn_intro 4 ?_
        refine ex_both h fun y8 h => ?_
        refine rqn_intro 4 ?_
        refine br_both h (fun hb h => ?_) (fun hb h => ?_)
        · subst h
          refine ⟨_, ?_, hK⟩
          exact wk_of (Or.inr ⟨⟨Or.inl rfl, trivial⟩, ⟨Or.inr (Or.inl rfl), Or.inr (Or.inl rfl), trivial⟩, rfl, rfl, rfl⟩)
        · refine rqn_intro 2 ?_
          exact hnext (z5x0, z5x1, z5x2, z5x3, z5x4, z5x5, z5x6, z5x7, z5x8, z5x9, z5x10, z5x11, z5x12, z5x13, z5x14, z5x15, z5x16, z5x17, y8, z5x19, (wI (z5x20 + 1))) _ h hK ⟨(), wk_of (Or.inr ⟨⟨Or.inl rfl, Or.inl rfl, Or.inl rfl, Or.inl rfl, Or.inl rfl, trivial⟩, ⟨Or.inl rfl, Or.inl rfl, trivial⟩, rfl, rfl, rfl⟩)⟩
      · refine rqn_intro 4 ?_
        subst h
        refine ⟨_, ?_, hK⟩
        exact wk_of (Or.inr ⟨⟨Or.inl rfl, trivial⟩, ⟨Or.inr (Or.inl rfl), Or.inr (Or.inl rfl), trivial⟩, rfl, rfl, rfl⟩)
    · refine rqn_intro 6 ?_
      subst h
      refine ⟨_, ?_, hK⟩
      exact wk_of (Or.inr ⟨⟨Or.inl rfl, trivial⟩, ⟨Or.inr (Or.inl rfl), Or.inr (Or.inl rfl), trivial⟩, rfl, rfl, rfl⟩)
  · subst h
    refine ⟨_, ?_, hK⟩
    exact wk_of (Or.inr ⟨⟨Or.inl rfl, trivial⟩, ⟨Or.inr (Or.inl rfl), Or.inr (Or.inl rfl), trivial⟩, rfl, rfl, rfl⟩)
theorem q27_0_ok (n : Nat) : Owed q27_cx okT 27 q27_lp (n + 1) q27_0_lp := loop_owed (fun z y h => h) fun k zz qq cc yy K h hK next hnext => q27_0_step n k zz.1 zz.2.1 zz.2.2.1 zz.2.2.2.1 zz.2.2.2.2.1 zz.2.2.2.2.2.1 zz.2.2.2.2.2.2.1 zz.2.2.2.2.2.2.2.1 zz.2.2.2.2.2.2.2.2.1 zz.2.2.2.2.2.2.2.2.2.1 zz.2.2.2.2.2.2.2.2.2.2.1 zz.2.2.2.2.2.2.2.2.2.2.2.1 zz.2.2.2.2.2.2.2.2.2.2.2.2.1 zz.2.2.2.2.2.2.2.2.2.2.2.2.2.1 zz.2.2.2.2.2.2.2.2.2.2.2.2.2.2.1 zz.2.2.2.2.2.2.2.2.2.2.2.2.2.2.2.1 zz.2.2.2.2.2.2.2.2.2.2.2.2.2.2.2.2.1 zz.2.2.2.2.2.2.2.2.2.2.2.2.2.2.2.2.2.1 zz.2.2.2.2.2.2.2.2.2.2.2.2.2.2.2.2.2.2.1 zz.2.2.2.2.2.2.2.2.2.2.2.2.2.2.2.2.2.2.2.1 zz.2.2.2.2.2.2.2.2.2.2.2.2.2.2.2.2.2.2.2.2 qq yy K h hK next hnext
theorem q27_lpok : LpOk q27_cx okT q27_lp := LpOk_tab ⟨q27_0_ok, trivial⟩
def table_CheckRow_R (a0 : Int) (a1 : Bool) (a2 : Int) (a3 : Int) (a4 : Int) (a5 : Int) (a6 : Int) (a7 : Int) (a8 : Int) (a9 : Int) (a10 : Int) (a11 : Bool) (a12 : Int) (a13 : Int) (a14 : Int) (a15 : Int) (a16 : List Int) (y : Int) : Prop :=
  (∃ y1 : Int, (job_Check_R a0 a1 a2 a3 a4 a5 a6 a7 a8 a9 a10 y1) ∧ (br (y1 == 0) (br (!a11) (br (decide (a15 ≥ 0)) (br (decide (a15 ≤ a10)) (br (a13 == 0) (br (decide ((((List.length a16) : Nat) : Int) ≤ 3)) (br ((a13 == 0) && ((a14 == 0) && ((a15 == 0) && true))) (∃ y2 : List Int, (table_line_R a0 a1 a2 a3 a4 a5 a6 a7 a8 a9 a10 a11 a12 a13 a14 a15 a16 y2) ∧ (br ((((List.length a16) : Nat) : Int) == 0) (br (a8 == 1) (∃ y4 : Bool, (table_rise_R y2 y4) ∧ (∃ y10 : table_CheckRow_l0_Y, table_CheckRow_l0_L (y2, a0, a1, a2, a3, a4, a5, a6, a7, a8, a9, a10, a11, a12, a13, a14, a15, a16, y4, (((List.length y2) : Nat) : Int), 0) y10 ∧ (br (!y10) (210 = y) (0 = y)))) (br ((((List.length a16) : Nat) : Int) == 0) (∃ y11 : Bool, (table_rise_R y2 y11) ∧ (∃ y13 : table_CheckRow_l0_Y, table_CheckRow_l0_L (y2, a0, a1, a2, a3, a4, a5, a6, a7, a8, a9, a10, a11, a12, a13, a14, a15, a16, y11, (((List.length y2) : Nat) : Int), 0) y13 ∧ (br (!y13) (210 = y) (0 = y)))) (∃ y15 : table_CheckRow_l0_Y, table_CheckRow_l0_L (y2, a0, a1, a2, a3, a4, a5, a6, a7, a8, a9, a10, a11, a12, a13, a14, a15, a16, false, (((List.length y2) : Nat) : Int), 0) y15 ∧ (br (!y15) (210 = y) (0 = y))))) (∃ y17 : table_CheckRow_l0_Y, table_CheckRow_l0_L (y2, a0, a1, a2, a3, a4, a5, a6, a7, a8, a9, a10, a11, a12, a13, a14, a15, a16, false, (((List.length y2) : Nat) : Int), 0) y17 ∧ (br (!y17) (210 = y) (0 = y))))) (∃ y18 : List Int, (table_line_R a0 a1 a2 a3 a4 a5 a6 a7 a8 a9 a10 a11 a12 a13 a14 a15 a16 y18) ∧ (∃ y21 : table_CheckRow_l0_Y, table_CheckRow_l0_L (y18, a0, a1, a2, a3, a4, a5, a6, a7, a8, a9, a10, a11, a12, a13, a14, a15, a16, false, (((List.length y18) : Nat) : Int), 0) y21 ∧ (br (!y21) (210 = y) (0 = y))))) (∃ y22 : List Int, (table_line_R a0 a1 a2 a3 a4 a5 a6 a7 a8 a9 a10 a11 a12 a13 a14 a15 a16 y22) ∧ (∃ y25 : table_CheckRow_l0_Y, table_CheckRow_l0_L (y22, a0, a1, a2, a3, a4, a5, a6, a7, a8, a9, a10, a11, a12, a13, a14, a15, a16, false, (((List.length y22) : Nat) : Int), 0) y25 ∧ (br (!y25) (210 = y) (0 = y))))) (∃ y26 : List Int, (table_line_R a0 a1 a2 a3 a4 a5 a6 a7 a8 a9 a10 a11 a12 a13 a14 a15 a16 y26) ∧ (br (decide ((((List.length a16) : Nat) : Int) ≤ 3)) (br (a8 == 1) (∃ y28 : Bool, (table_rise_R y26 y28) ∧ (∃ y30 : table_CheckRow_l0_Y, table_CheckRow_l0_L (y26, a0, a1, a2, a3, a4, a5, a6, a7, a8, a9, a10, a11, a12, a13, a14, a15, a16, y28, (((List.length y26) : Nat) : Int), 0) y30 ∧ (br (!y30) (210 = y) (0 = y)))) (br ((((List.length a16) : Nat) : Int) == 0) (∃ y31 : Bool, (table_rise_R y26 y31) ∧ (∃ y33 : table_CheckRow_l0_Y, table_CheckRow_l0_L (y26, a0, a1, a2, a3, a4, a5, a6, a7, a8, a9, a10, a11, a12, a13, a14, a15, a16, y31, (((List.length y26) : Nat) : Int), 0) y33 ∧ (br (!y33) (210 = y) (0 = y)))) (∃ y35 : table_CheckRow_l0_Y, table_CheckRow_l0_L (y26, a0, a1, a2, a3, a4, a5, a6, a7, a8, a9, a10, a11, a12, a13, a14, a15, a16, false, (((List.length y26) : Nat) : Int), 0) y35 ∧ (br (!y35) (210 = y) (0 = y))))) (∃ y37 : table_CheckRow_l0_Y, table_CheckRow_l0_L (y26, a0, a1, a2, a3, a4, a5, a6, a7, a8, a9, a10, a11, a12, a13, a14, a15, a16, false, (((List.length y26) : Nat) : Int), 0) y37 ∧ (br (!y37) (210 = y) (0 = y)))))) (br (a13 == 0) (∃ y38 : List Int, (table_line_R a0 a1 a2 a3 a4 a5 a6 a7 a8 a9 a10 a11 a12 a13 a14 a15 a16 y38) ∧ (∃ y41 : table_CheckRow_l0_Y, table_CheckRow_l0_L (y38, a0, a1, a2, a3, a4, a5, a6, a7, a8, a9, a10, a11, a12, a13, a14, a15, a16, false, (((List.length y38) : Nat) : Int), 0) y41 ∧ (br (!y41) (210 = y) (0 = y)))) (∃ y42 : List Int, (table_line_R a0 a1 a2 a3 a4 a5 a6 a7 a8 a9 a10 a11 a12 a13 a14 a15 a16 y42) ∧ (∃ y45 : table_CheckRow_l0_Y, table_CheckRow_l0_L (y42, a0, a1, a2, a3, a4, a5, a6, a7, a8, a9, a10, a11, a12, a13, a14, a15, a16, false, (((List.length y42) : Nat) : Int), 0) y45 ∧ (br (!y45) (210 = y) (0 = y)))))) (br (a13 == 0) (∃ y46 : List Int, (table_line_R a0 a1 a2 a3 a4 a5 a6 a7 a8 a9 a10 a11 a12 a13 a14 a15 a16 y46) ∧ (∃ y49 : table_CheckRow_l0_Y, table_CheckRow_l0_L (y46, a0, a1, a2, a3, a4, a5, a6, a7, a8, a9, a10, a11, a12, a13, a14, a15, a16, false, (((List.length y46) : Nat) : Int), 0) y49 ∧ (br (!y49) (210 = y) (0 = y)))) (∃ y50 : List Int, (table_line_R a0 a1 a2 a3 a4 a5 a6 a7 a8 a9 a10 a11 a12 a13 a14 a15 a16 y50) ∧ (∃ y53 : table_CheckRow_l0_Y, table_CheckRow_l0_L (y50, a0, a1, a2, a3, a4, a5, a6, a7, a8, a9, a10, a11, a12, a13, a14, a15, a16, false, (((List.length y50) : Nat) : Int), 0) y53 ∧ (br (!y53) (210 = y) (0 = y)))))) (br (a12 == (-1)) (br (decide (a15 ≥ 0)) (br (decide (a15 ≤ a10)) (br (a13 == 0) (br (decide ((((List.length a16) : Nat) : Int) ≤ 3)) (br ((a13 == 0) && ((a14 == 0) && ((a15 == 0) && true))) (∃ y54 : List Int, (table_line_R a0 a1 a2 a3 a4 a5 a6 a7 a8 a9 a10 a11 a12 a13 a14 a15 a16 y54) ∧ (br ((((List.length a16) : Nat) : Int) == 0) (br (a8 == 1) (∃ y56 : Bool, (table_rise_R y54 y56) ∧ (∃ y58 : table_CheckRow_l0_Y, table_CheckRow_l0_L (y54, a0, a1, a2, a3, a4, a5, a6, a7, a8, a9, a10, a11, a12, a13, a14, a15, a16, y56, (((List.length y54) : Nat) : Int), 0) y58 ∧ (br (!y58) (210 = y) (0 = y)))) (br ((((List.length a16) : Nat) : Int) == 0) (∃ y59 : Bool, (table_rise_R y54 y59) ∧ (∃ y61 : table_CheckRow_l0_Y, table_CheckRow_l0_L (y54, a0, a1, a2, a3, a4, a5, a6, a7, a8, a9, a10, a11, a12, a13, a14, a15, a16, y59, (((List.length y54) : Nat) : Int), 0) y61 ∧ (br (!y61) (210 = y) (0 = y)))) (∃ y63 : table_CheckRow_l0_Y, table_CheckRow_l0_L (y54, a0, a1, a2, a3, a4, a5, a6, a7, a8, a9, a10, a11, a12, a13, a14, a15, a16, false, (((List.length y54) : Nat) : Int), 0) y63 ∧ (br (!y63) (210 = y) (0 = y))))) (∃ y65 : table_CheckRow_l0_Y, table_CheckRow_l0_L (y54, a0, a1, a2, a3, a4, a5, a6, a7, a8, a9, a10, a11, a12, a13, a14, a15, a16, false, (((List.length y54) : Nat) : Int), 0) y65 ∧ (br (!y65) (210 = y) (0 = y))))) (∃ y66 : List Int, (table_line_R a0 a1 a2 a3 a4 a5 a6 a7 a8 a9 a10 a11 a12 a13 a14 a15 a16 y66) ∧ (∃ y69 : table_CheckRow_l0_Y, table_CheckRow_l0_L (y66, a0, a1, a2, a3, a4, a5, a6, a7, a8, a9, a10, a11, a12, a13, a14, a15, a16, false, (((List.length y66) : Nat) : Int), 0) y69 ∧ (br (!y69) (210 = y) (0 = y))))) (∃ y70 : List Int, (table_line_R a0 a1 a2 a3 a4 a5 a6 a7 a8 a9 a10 a11 a12 a13 a14 a15 a16 y70) ∧ (∃ y73 : table_CheckRow_l0_Y, table_CheckRow_l0_L (y70, a0, a1, a2, a3, a4, a5, a6, a7, a8, a9, a10, a11, a12, a13, a14, a15, a16, false, (((List.length y70) : Nat) : Int), 0) y73 ∧ (br (!y73) (210 = y) (0 = y))))) (∃ y74 : List Int, (table_line_R a0 a1 a2 a3 a4 a5 a6 a7 a8 a9 a10 a11 a12 a13 a14 a15 a16 y74) ∧ (br (decide ((((List.length a16) : Nat) : Int) ≤ 3)) (br (a8 == 1) (∃ y76 : Bool, (table_rise_R y74 y76) ∧ (∃ y78 : table_CheckRow_l0_Y, table_CheckRow_l0_L (y74, a0, a1, a2, a3, a4, a5, a6, a7, a8, a9, a10, a11, a12, a13, a14, a15, a16, y76, (((List.length y74) : Nat) : Int), 0) y78 ∧ (br (!y78) (210 = y) (0 = y)))) (br ((((List.length a16) : Nat) : Int) == 0) (∃ y79 : Bool, (table_rise_R y74 y79) ∧ (∃ y81 : table_CheckRow_l0_Y, table_CheckRow_l0_L (y74, a0, a1, a2, a3, a4, a5, a6, a7, a8, a9, a10, a11, a12, a13, a14, a15, a16, y79, (((List.length y74) : Nat) : Int), 0) y81 ∧ (br (!y81) (210 = y) (0 = y)))) (∃ y83 : table_CheckRow_l0_Y, table_CheckRow_l0_L (y74, a0, a1, a2, a3, a4, a5, a6, a7, a8, a9, a10, a11, a12, a13, a14, a15, a16, false, (((List.length y74) : Nat) : Int), 0) y83 ∧ (br (!y83) (210 = y) (0 = y))))) (∃ y85 : table_CheckRow_l0_Y, table_CheckRow_l0_L (y74, a0, a1, a2, a3, a4, a5, a6, a7, a8, a9, a10, a11, a12, a13, a14, a15, a16, false, (((List.length y74) : Nat) : Int), 0) y85 ∧ (br (!y85) (210 = y) (0 = y)))))) (br (a13 == 0) (∃ y86 : List Int, (table_line_R a0 a1 a2 a3 a4 a5 a6 a7 a8 a9 a10 a11 a12 a13 a14 a15 a16 y86) ∧ (∃ y89 : table_CheckRow_l0_Y, table_CheckRow_l0_L (y86, a0, a1, a2, a3, a4, a5, a6, a7, a8, a9, a10, a11, a12, a13, a14, a15, a16, false, (((List.length y86) : Nat) : Int), 0) y89 ∧ (br (!y89) (210 = y) (0 = y)))) (∃ y90 : List Int, (table_line_R a0 a1 a2 a3 a4 a5 a6 a7 a8 a9 a10 a11 a12 a13 a14 a15 a16 y90) ∧ (∃ y93 : table_CheckRow_l0_Y, table_CheckRow_l0_L (y90, a0, a1, a2, a3, a4, a5, a6, a7, a8, a9, a10, a11, a12, a13, a14, a15, a16, false, (((List.length y90) : Nat) : Int), 0) y93 ∧ (br (!y93) (210 = y) (0 = y)))))) (br (a13 == 0) (∃ y94 : List Int, (table_line_R a0 a1 a2 a3 a4 a5 a6 a7 a8 a9 a10 a11 a12 a13 a14 a15 a16 y94) ∧ (∃ y97 : table_CheckRow_l0_Y, table_CheckRow_l0_L (y94, a0, a1, a2, a3, a4, a5, a6, a7, a8, a9, a10, a11, a12, a13, a14, a15, a16, false, (((List.length y94) : Nat) : Int), 0) y97 ∧ (br (!y97) (210 = y) (0 = y)))) (∃ y98 : List Int, (table_line_R a0 a1 a2 a3 a4 a5 a6 a7 a8 a9 a10 a11 a12 a13 a14 a15 a16 y98) ∧ (∃ y101 : table_CheckRow_l0_Y, table_CheckRow_l0_L (y98, a0, a1, a2, a3, a4, a5, a6, a7, a8, a9, a10, a11, a12, a13, a14, a15, a16, false, (((List.length y98) : Nat) : Int), 0) y101 ∧ (br (!y101) (210 = y) (0 = y)))))) (br (a13 == 0) (∃ y102 : List Int, (table_line_R a0 a1 a2 a3 a4 a5 a6 a7 a8 a9 a10 a11 a12 a13 a14 a15 a16 y102) ∧ (∃ y105 : table_CheckRow_l0_Y, table_CheckRow_l0_L (y102, a0, a1, a2, a3, a4, a5, a6, a7, a8, a9, a10, a11, a12, a13, a14, a15, a16, false, (((List.length y102) : Nat) : Int), 0) y105 ∧ (br (!y105) (210 = y) (0 = y)))) (∃ y106 : List Int, (table_line_R a0 a1 a2 a3 a4 a5 a6 a7 a8 a9 a10 a11 a12 a13 a14 a15 a16 y106) ∧ (∃ y109 : table_CheckRow_l0_Y, table_CheckRow_l0_L (y106, a0, a1, a2, a3, a4, a5, a6, a7, a8, a9, a10, a11, a12, a13, a14, a15, a16, false, (((List.length y106) : Nat) : Int), 0) y109 ∧ (br (!y109) (210 = y) (0 = y))))))) (br (a13 == 0) (∃ y110 : List Int, (table_line_R a0 a1 a2 a3 a4 a5 a6 a7 a8 a9 a10 a11 a12 a13 a14 a15 a16 y110) ∧ (∃ y113 : table_CheckRow_l0_Y, table_CheckRow_l0_L (y110, a0, a1, a2, a3, a4, a5, a6, a7, a8, a9, a10, a11, a12, a13, a14, a15, a16, false, (((List.length y110) : Nat) : Int), 0) y113 ∧ (br (!y113) (210 = y) (0 = y)))) (∃ y114 : List Int, (table_line_R a0 a1 a2 a3 a4 a5 a6 a7 a8 a9 a10 a11 a12 a13 a14 a15 a16 y114) ∧ (∃ y117 : table_CheckRow_l0_Y, table_CheckRow_l0_L (y114, a0, a1, a2, a3, a4, a5, a6, a7, a8, a9, a10, a11, a12, a13, a14, a15, a16, false, (((List.length y114) : Nat) : Int), 0) y117 ∧ (br (!y117) (210 = y) (0 = y)))))))
theorem q27_tree (a0 : Int) (a1 : Bool) (a2 : Int) (a3 : Int) (a4 : Int) (a5 : Int) (a6 : Int) (a7 : Int) (a8 : Int) (a9 : Int) (a10 : Int) (a11 : Bool) (a12 : Int) (a13 : Int) (a14 : Int) (a15 : Int) (a16 : List Int) (y : Int) : acall q27_cx okT q27_lp 60 (.fn 27 [] []) [(V.agg [(V.int .u32 a0), (V.bool a1), (V.int .u64 a2), (V.int .u64 a3), (V.int .u64 a4), (V.int .u64 a5), (V.int .u64 a6), (V.int .i64 a7), (V.int .i64 a8), (V.int .i64 a9), (V.int .i64 a10), (V.bool a11), (V.int .i64 a12), (V.int .u64 a13), (V.int .i64 a14), (V.int .i64 a15), (V.sl (.int .i64) a16 none)])] [] (leafK (.int .i64) y) =
    (rqn 4 (∃ y1 : Int, (job_Check_R a0 a1 a2 a3 a4 a5 a6 a7 a8 a9 a10 y1) ∧ (rqn 2 (br (y1 == 0) (rqn 4 (br (!a11) (rqn 9 (br (decide (a15 ≥ 0)) (rqn 9 (br (decide (a15 ≤ a10)) (rqn 10 (br (a13 == 0) (rqn 2 (br (decide ((((List.length a16) : Nat) : Int) ≤ 3)) (rqn 6 (br ((a13 == 0) && ((a14 == 0) && ((a15 == 0) && true))) (rqn 8 (∃ y2 : List Int, (table_line_R a0 a1 a2 a3 a4 a5 a6 a7 a8 a9 a10 a11 a12 a13 a14 a15 a16 y2) ∧ (∀ c3 : Nat, Nat.ble (List.length y2) c3 = true → (rqn 3 (br ((((List.length a16) : Nat) : Int) == 0) (rqn 5 (br (a8 == 1) (rqn 4 (req (Nat.beq (List.length y2) (List.length y2)) (∃ y4 : Bool, (table_rise_R y2 y4) ∧ (rqn 5 (((none : Option Nat) = (none : Option Nat)) ∧ (q27_0_body = q27_0_body) ∧ ∃ z9 : table_CheckRow_l0_Z, ∃ z9q : q27_0_Q, ∃ y10 : table_CheckRow_l0_Y, (2 = 2) ∧ (∃ zc : q27_0_C, wk 2 ⟨[(0, (V.agg [(V.int .u32 a0), (vb a1), (vu a2), (vu a3), (vu a4), (vu a5), (vu a6), (vi a7), (vi a8), (vi a9), (vi a10), (vb a11), (vi a12), (vu a13), (vi a14), (vi a15), (V.sl (.int .i64) a16 none)])), (1, (V.ptr 0 0)), (2, (vi 0)), (3, (vb y4)), (45, (vb (a13 == 0))), (4, (V.row 1 1 (List.length y2) c3)), (78, (V.row 1 1 (List.length y2) c3)), (79, (vi (((List.length y2) : Nat) : Int))), (80, (vi 0))], [(Blk.cells [(V.int .u32 a0), (vb a1), (vu a2), (vu a3), (vu a4), (vu a5), (vu a6), (vi a7), (vi a8), (vi a9), (vi a10), (vb a11), (vi a12), (vu a13), (vi a14), (vi a15), (V.sl (.int .i64) a16 none)]), (Blk.row (.int .i64) y2 2 c3)], []⟩ (q27_0_st z9 z9q zc)) ∧ (∃ k, table_CheckRow_l0 k z9 y10) ∧ (rqn 2 (br (!y10) (req true (req true (210 = y))) (req true (req true (0 = y)))))))))) (rqn 7 (br ((((List.length a16) : Nat) : Int) == 0) (req true (req (Nat.beq (List.length y2) (List.length y2)) (∃ y11 : Bool, (table_rise_R y2 y11) ∧ (rqn 5 (((none : Option Nat) = (none : Option Nat)) ∧ (q27_0_body = q27_0_body) ∧ ∃ z12 : table_CheckRow_l0_Z, ∃ z12q : q27_0_Q, ∃ y13 : table_CheckRow_l0_Y, (2 = 2) ∧ (∃ zc : q27_0_C, wk 2 ⟨[(0, (V.agg [(V.int .u32 a0), (vb a1), (vu a2), (vu a3), (vu a4), (vu a5), (vu a6), (vi a7), (vi a8), (vi a9), (vi a10), (vb a11), (vi a12), (vu a13), (vi a14), (vi a15), (V.sl (.int .i64) a16 none)])), (1, (V.ptr 0 0)), (2, (vi 0)), (3, (vb y11)), (45, (vb (a13 == 0))), (4, (V.row 1 1 (List.length y2) c3)), (78, (V.row 1 1 (List.length y2) c3)), (79, (vi (((List.length y2) : Nat) : Int))), (80, (vi 0))], [(Blk.cells [(V.int .u32 a0), (vb a1), (vu a2), (vu a3), (vu a4), (vu a5), (vu a6), (vi a7), (vi a8), (vi a9), (vi a10), (vb a11), (vi a12), (vu a13), (vi a14), (vi a15), (V.sl (.int .i64) a16 none)]), (Blk.row (.int .i64) y2 2 c3)], []⟩ (q27_0_st z12 z12q zc)) ∧ (∃ k, table_CheckRow_l0 k z12 y13) ∧ (rqn 2 (br (!y13) (req true (req true (210 = y))) (req true (req true (0 = y)))))))))) (rqn 5 (((none : Option Nat) = (none : Option Nat)) ∧ (q27_0_body = q27_0_body) ∧ ∃ z14 : table_CheckRow_l0_Z, ∃ z14q : q27_0_Q, ∃ y15 : table_CheckRow_l0_Y, (2 = 2) ∧ (∃ zc : q27_0_C, wk 2 ⟨[(0, (V.agg [(V.int .u32 a0), (vb a1), (vu a2), (vu a3), (vu a4), (vu a5), (vu a6), (vi a7), (vi a8), (vi a9), (vi a10), (vb a11), (vi a12), (vu a13), (vi a14), (vi a15), (V.sl (.int .i64) a16 none)])), (1, (V.ptr 0 0)), (2, (vi 0)), (3, (vb false)), (45, (vb (a13 == 0))), (4, (V.row 1 1 (List.length y2) c3)), (78, (V.row 1 1 (List.length y2) c3)), (79, (vi (((List.length y2) : Nat) : Int))), (80, (vi 0))], [(Blk.cells [(V.int .u32 a0), (vb a1), (vu a2), (vu a3), (vu a4), (vu a5), (vu a6), (vi a7), (vi a8), (vi a9), (vi a10), (vb a11), (vi a12), (vu a13), (vi a14), (vi a15), (V.sl (.int .i64) a16 none)]), (Blk.row (.int .i64) y2 2 c3)], []⟩ (q27_0_st z14 z14q zc)) ∧ (∃ k, table_CheckRow_l0 k z14 y15) ∧ (rqn 2 (br (!y15) (req true (req true (210 = y))) (req true (req true (0 = y))))))))))) (rqn 7 (((none : Option Nat) = (none : Option Nat)) ∧ (q27_0_body = q27_0_body) ∧ ∃ z16 : table_CheckRow_l0_Z, ∃ z16q : q27_0_Q, ∃ y17 : table_CheckRow_l0_Y, (2 = 2) ∧ (∃ zc : q27_0_C, wk 2 ⟨[(0, (V.agg [(V.int .u32 a0), (vb a1), (vu a2), (vu a3), (vu a4), (vu a5), (vu a6), (vi a7), (vi a8), (vi a9), (vi a10), (vb a11), (vi a12), (vu a13), (vi a14), (vi a15), (V.sl (.int .i64) a16 none)])), (1, (V.ptr 0 0)), (2, (vi 0)), (3, (vb false)), (45, (vb (a13 == 0))), (4, (V.row 1 1 (List.length y2) c3)), (78, (V.row 1 1 (List.length y2) c3)), (79, (vi (((List.length y2) : Nat) : Int))), (80, (vi 0))], [(Blk.cells [(V.int .u32 a0), (vb a1), (vu a2), (vu a3), (vu a4), (vu a5), (vu a6), (vi a7), (vi a8), (vi a9), (vi a10), (vb a11), (vi a12), (vu a13), (vi a14), (vi a15), (V.sl (.int .i64) a16 none)]), (Blk.row (.int .i64) y2 2 c3)], []⟩ (q27_0_st z16 z16q zc)) ∧ (∃ k, table_CheckRow_l0 k z16 y17) ∧ (rqn 2 (br (!y17) (req true (req true (210 = y))) (req true (req true (0 = y)))))))))))) (rqn 4 (∃ y18 : List Int, (table_line_R a0 a1 a2 a3 a4 a5 a6 a7 a8 a9 a10 a11 a12 a13 a14 a15 a16 y18) ∧ (∀ c19 : Nat, Nat.ble (List.length y18) c19 = true → (rqn 10 (((none : Option Nat) = (none : Option Nat)) ∧ (q27_0_body = q27_0_body) ∧ ∃ z20 : table_CheckRow_l0_Z, ∃ z20q : q27_0_Q, ∃ y21 : table_CheckRow_l0_Y, (2 = 2) ∧ (∃ zc : q27_0_C, wk 2 ⟨[(0, (V.agg [(V.int .u32 a0), (vb a1), (vu a2), (vu a3), (vu a4), (vu a5), (vu a6), (vi a7), (vi a8), (vi a9), (vi a10), (vb a11), (vi a12), (vu a13), (vi a14), (vi a15), (V.sl (.int .i64) a16 none)])), (1, (V.ptr 0 0)), (2, (vi 0)), (3, (vb false)), (45, (vb (a13 == 0))), (4, (V.row 1 1 (List.length y18) c19)), (78, (V.row 1 1 (List.length y18) c19)), (79, (vi (((List.length y18) : Nat) : Int))), (80, (vi 0))], [(Blk.cells [(V.int .u32 a0), (vb a1), (vu a2), (vu a3), (vu a4), (vu a5), (vu a6), (vi a7), (vi a8), (vi a9), (vi a10), (vb a11), (vi a12), (vu a13), (vi a14), (vi a15), (V.sl (.int .i64) a16 none)]), (Blk.row (.int .i64) y18 2 c19)], []⟩ (q27_0_st z20 z20q zc)) ∧ (∃ k, table_CheckRow_l0 k z20 y21) ∧ (rqn 2 (br (!y21) (req true (req true (210 = y))) (req true (req true (0 = y)))))))))))) (rqn 6 (∃ y22 : List Int, (table_line_R a0 a1 a2 a3 a4 a5 a6 a7 a8 a9 a10 a11 a12 a13 a14 a15 a16 y22) ∧ (∀ c23 : Nat, Nat.ble (List.length y22) c23 = true → (rqn 10 (((none : Option Nat) = (none : Option Nat)) ∧ (q27_0_body = q27_0_body) ∧ ∃ z24 : table_CheckRow_l0_Z, ∃ z24q : q27_0_Q, ∃ y25 : table_CheckRow_l0_Y, (2 = 2) ∧ (∃ zc : q27_0_C, wk 2 ⟨[(0, (V.agg [(V.int .u32 a0), (vb a1), (vu a2), (vu a3), (vu a4), (vu a5), (vu a6), (vi a7), (vi a8), (vi a9), (vi a10), (vb a11), (vi a12), (vu a13), (vi a14), (vi a15), (V.sl (.int .i64) a16 none)])), (1, (V.ptr 0 0)), (2, (vi 0)), (3, (vb false)), (45, (vb (a13 == 0))), (4, (V.row 1 1 (List.length y22) c23)), (78, (V.row 1 1 (List.length y22) c23)), (79, (vi (((List.length y22) : Nat) : Int))), (80, (vi 0))], [(Blk.cells [(V.int .u32 a0), (vb a1), (vu a2), (vu a3), (vu a4), (vu a5), (vu a6), (vi a7), (vi a8), (vi a9), (vi a10), (vb a11), (vi a12), (vu a13), (vi a14), (vi a15), (V.sl (.int .i64) a16 none)]), (Blk.row (.int .i64) y22 2 c23)], []⟩ (q27_0_st z24 z24q zc)) ∧ (∃ k, table_CheckRow_l0 k z24 y25) ∧ (rqn 2 (br (!y25) (req true (req true (210 = y))) (req true (req true (0 = y)))))))))))) (rqn 2 (∃ y26 : List Int, (table_line_R a0 a1 a2 a3 a4 a5 a6 a7 a8 a9 a10 a11 a12 a13 a14 a15 a16 y26) ∧ (∀ c27 : Nat, Nat.ble (List.length y26) c27 = true → (rqn 3 (br (decide ((((List.length a16) : Nat) : Int) ≤ 3)) (rqn 5 (br (a8 == 1) (rqn 4 (req (Nat.beq (List.length y26) (List.length y26)) (∃ y28 : Bool, (table_rise_R y26 y28) ∧ (rqn 5 (((none : Option Nat) = (none : Option Nat)) ∧ (q27_0_body = q27_0_body) ∧ ∃ z29 : table_CheckRow_l0_Z, ∃ z29q : q27_0_Q, ∃ y30 : table_CheckRow_l0_Y, (2 = 2) ∧ (∃ zc : q27_0_C, wk 2 ⟨[(0, (V.agg [(V.int .u32 a0), (vb a1), (vu a2), (vu a3), (vu a4), (vu a5), (vu a6), (vi a7), (vi a8), (vi a9), (vi a10), (vb a11), (vi a12), (vu a13), (vi a14), (vi a15), (V.sl (.int .i64) a16 none)])), (1, (V.ptr 0 0)), (2, (vi 0)), (3, (vb y28)), (45, (vb (a13 == 0))), (4, (V.row 1 1 (List.length y26) c27)), (78, (V.row 1 1 (List.length y26) c27)), (79, (vi (((List.length y26) : Nat) : Int))), (80, (vi 0))], [(Blk.cells [(V.int .u32 a0), (vb a1), (vu a2), (vu a3), (vu a4), (vu a5), (vu a6), (vi a7), (vi a8), (vi a9), (vi a10), (vb a11), (vi a12), (vu a13), (vi a14), (vi a15), (V.sl (.int .i64) a16 none)]), (Blk.row (.int .i64) y26 2 c27)], []⟩ (q27_0_st z29 z29q zc)) ∧ (∃ k, table_CheckRow_l0 k z29 y30) ∧ (rqn 2 (br (!y30) (req true (req true (210 = y))) (req true (req true (0 = y)))))))))) (rqn 7 (br ((((List.length a16) : Nat) : Int) == 0) (req true (req (Nat.beq (List.length y26) (List.length y26)) (∃ y31 : Bool, (table_rise_R y26 y31) ∧ (rqn 5 (((none : Option Nat) = (none : Option Nat)) ∧ (q27_0_body = q27_0_body) ∧ ∃ z32 : table_CheckRow_l0_Z, ∃ z32q : q27_0_Q, ∃ y33 : table_CheckRow_l0_Y, (2 = 2) ∧ (∃ zc : q27_0_C, wk 2 ⟨[(0, (V.agg [(V.int .u32 a0), (vb a1), (vu a2), (vu a3), (vu a4), (vu a5), (vu a6), (vi a7), (vi a8), (vi a9), (vi a10), (vb a11), (vi a12), (vu a13), (vi a14), (vi a15), (V.sl (.int .i64) a16 none)])), (1, (V.ptr 0 0)), (2, (vi 0)), (3, (vb y31)), (45, (vb (a13 == 0))), (4, (V.row 1 1 (List.length y26) c27)), (78, (V.row 1 1 (List.length y26) c27)), (79, (vi (((List.length y26) : Nat) : Int))), (80, (vi 0))], [(Blk.cells [(V.int .u32 a0), (vb a1), (vu a2), (vu a3), (vu a4), (vu a5), (vu a6), (vi a7), (vi a8), (vi a9), (vi a10), (vb a11), (vi a12), (vu a13), (vi a14), (vi a15), (V.sl (.int .i64) a16 none)]), (Blk.row (.int .i64) y26 2 c27)], []⟩ (q27_0_st z32 z32q zc)) ∧ (∃ k, table_CheckRow_l0 k z32 y33) ∧ (rqn 2 (br (!y33) (req true (req true (210 = y))) (req true (req true (0 = y)))))))))) (rqn 5 (((none : Option Nat) = (none : Option Nat)) ∧ (q27_0_body = q27_0_body) ∧ ∃ z34 : table_CheckRow_l0_Z, ∃ z34q : q27_0_Q, ∃ y35 : table_CheckRow_l0_Y, (2 = 2) ∧ (∃ zc : q27_0_C, wk 2 ⟨[(0, (V.agg [(V.int .u32 a0), (vb a1), (vu a2), (vu a3), (vu a4), (vu a5), (vu a6), (vi a7), (vi a8), (vi a9), (vi a10), (vb a11), (vi a12), (vu a13), (vi a14), (vi a15), (V.sl (.int .i64) a16 none)])), (1, (V.ptr 0 0)), (2, (vi 0)), (3, (vb false)), (45, (vb (a13 == 0))), (4, (V.row 1 1 (List.length y26) c27)), (78, (V.row 1 1 (List.length y26) c27)), (79, (vi (((List.length y26) : Nat) : Int))), (80, (vi 0))], [(Blk.cells [(V.int .u32 a0), (vb a1), (vu a2), (vu a3), (vu a4), (vu a5), (vu a6), (vi a7), (vi a8), (vi a9), (vi a10), (vb a11), (vi a12), (vu a13), (vi a14), (vi a15), (V.sl (.int .i64) a16 none)]), (Blk.row (.int .i64) y26 2 c27)], []⟩ (q27_0_st z34 z34q zc)) ∧ (∃ k, table_CheckRow_l0 k z34 y35) ∧ (rqn 2 (br (!y35) (req true (req true (210 = y))) (req true (req true (0 = y))))))))))) (rqn 7 (((none : Option Nat) = (none : Option Nat)) ∧ (q27_0_body = q27_0_body) ∧ ∃ z36 : table_CheckRow_l0_Z, ∃ z36q : q27_0_Q, ∃ y37 : table_CheckRow_l0_Y, (2 = 2) ∧ (∃ zc : q27_0_C, wk 2 ⟨[(0, (V.agg [(V.int .u32 a0), (vb a1), (vu a2), (vu a3), (vu a4), (vu a5), (vu a6), (vi a7), (vi a8), (vi a9), (vi a10), (vb a11), (vi a12), (vu a13), (vi a14), (vi a15), (V.sl (.int .i64) a16 none)])), (1, (V.ptr 0 0)), (2, (vi 0)), (3, (vb false)), (45, (vb (a13 == 0))), (4, (V.row 1 1 (List.length y26) c27)), (78, (V.row 1 1 (List.length y26) c27)), (79, (vi (((List.length y26) : Nat) : Int))), (80, (vi 0))], [(Blk.cells [(V.int .u32 a0), (vb a1), (vu a2), (vu a3), (vu a4), (vu a5), (vu a6), (vi a7), (vi a8), (vi a9), (vi a10), (vb a11), (vi a12), (vu a13), (vi a14), (vi a15), (V.sl (.int .i64) a16 none)]), (Blk.row (.int .i64) y26 2 c27)], []⟩ (q27_0_st z36 z36q zc)) ∧ (∃ k, table_CheckRow_l0 k z36 y37) ∧ (rqn 2 (br (!y37) (req true (req true (210 = y))) (req true (req true (0 = y)))))))))))))) (rqn 6 (br (a13 == 0) (rqn 8 (∃ y38 : List Int, (table_line_R a0 a1 a2 a3 a4 a5 a6 a7 a8 a9 a10 a11 a12 a13 a14 a15 a16 y38) ∧ (∀ c39 : Nat, Nat.ble (List.length y38) c39 = true → (rqn 10 (((none : Option Nat) = (none : Option Nat)) ∧ (q27_0_body = q27_0_body) ∧ ∃ z40 : table_CheckRow_l0_Z, ∃ z40q : q27_0_Q, ∃ y41 : table_CheckRow_l0_Y, (2 = 2) ∧ (∃ zc : q27_0_C, wk 2 ⟨[(0, (V.agg [(V.int .u32 a0), (vb a1), (vu a2), (vu a3), (vu a4), (vu a5), (vu a6), (vi a7), (vi a8), (vi a9), (vi a10), (vb a11), (vi a12), (vu a13), (vi a14), (vi a15), (V.sl (.int .i64) a16 none)])), (1, (V.ptr 0 0)), (2, (vi 0)), (3, (vb false)), (45, (vb (a13 == 0))), (4, (V.row 1 1 (List.length y38) c39)), (78, (V.row 1 1 (List.length y38) c39)), (79, (vi (((List.length y38) : Nat) : Int))), (80, (vi 0))], [(Blk.cells [(V.int .u32 a0), (vb a1), (vu a2), (vu a3), (vu a4), (vu a5), (vu a6), (vi a7), (vi a8), (vi a9), (vi a10), (vb a11), (vi a12), (vu a13), (vi a14), (vi a15), (V.sl (.int .i64) a16 none)]), (Blk.row (.int .i64) y38 2 c39)], []⟩ (q27_0_st z40 z40q zc)) ∧ (∃ k, table_CheckRow_l0 k z40 y41) ∧ (rqn 2 (br (!y41) (req true (req true (210 = y))) (req true (req true (0 = y)))))))))) (rqn 2 (∃ y42 : List Int, (table_line_R a0 a1 a2 a3 a4 a5 a6 a7 a8 a9 a10 a11 a12 a13 a14 a15 a16 y42) ∧ (∀ c43 : Nat, Nat.ble (List.length y42) c43 = true → (rqn 10 (((none : Option Nat) = (none : Option Nat)) ∧ (q27_0_body = q27_0_body) ∧ ∃ z44 : table_CheckRow_l0_Z, ∃ z44q : q27_0_Q, ∃ y45 : table_CheckRow_l0_Y, (2 = 2) ∧ (∃ zc : q27_0_C, wk 2 ⟨[(0, (V.agg [(V.int .u32 a0), (vb a1), (vu a2), (vu a3), (vu a4), (vu a5), (vu a6), (vi a7), (vi a8), (vi a9), (vi a10), (vb a11), (vi a12), (vu a13), (vi a14), (vi a15), (V.sl (.int .i64) a16 none)])), (1, (V.ptr 0 0)), (2, (vi 0)), (3, (vb false)), (45, (vb (a13 == 0))), (4, (V.row 1 1 (List.length y42) c43)), (78, (V.row 1 1 (List.length y42) c43)), (79, (vi (((List.length y42) : Nat) : Int))), (80, (vi 0))], [(Blk.cells [(V.int .u32 a0), (vb a1), (vu a2), (vu a3), (vu a4), (vu a5), (vu a6), (vi a7), (vi a8), (vi a9), (vi a10), (vb a11), (vi a12), (vu a13), (vi a14), (vi a15), (V.sl (.int .i64) a16 none)]), (Blk.row (.int .i64) y42 2 c43)], []⟩ (q27_0_st z44 z44q zc)) ∧ (∃ k, table_CheckRow_l0 k z44 y45) ∧ (rqn 2 (br (!y45) (req true (req true (210 = y))) (req true (req true (0 = y)))))))))))))) (rqn 8 (br (a13 == 0) (rqn 8 (∃ y46 : List Int, (table_line_R a0 a1 a2 a3 a4 a5 a6 a7 a8 a9 a10 a11 a12 a13 a14 a15 a16 y46) ∧ (∀ c47 : Nat, Nat.ble (List.length y46) c47 = true → (rqn 10 (((none : Option Nat) = (none : Option Nat)) ∧ (q27_0_body = q27_0_body) ∧ ∃ z48 : table_CheckRow_l0_Z, ∃ z48q : q27_0_Q, ∃ y49 : table_CheckRow_l0_Y, (2 = 2) ∧ (∃ zc : q27_0_C, wk 2 ⟨[(0, (V.agg [(V.int .u32 a0), (vb a1), (vu a2), (vu a3), (vu a4), (vu a5), (vu a6), (vi a7), (vi a8), (vi a9), (vi a10), (vb a11), (vi a12), (vu a13), (vi a14), (vi a15), (V.sl (.int .i64) a16 none)])), (1, (V.ptr 0 0)), (2, (vi 0)), (3, (vb false)), (45, (vb (a13 == 0))), (4, (V.row 1 1 (List.length y46) c47)), (78, (V.row 1 1 (List.length y46) c47)), (79, (vi (((List.length y46) : Nat) : Int))), (80, (vi 0))], [(Blk.cells [(V.int .u32 a0), (vb a1), (vu a2), (vu a3), (vu a4), (vu a5), (vu a6), (vi a7), (vi a8), (vi a9), (vi a10), (vb a11), (vi a12), (vu a13), (vi a14), (vi a15), (V.sl (.int .i64) a16 none)]), (Blk.row (.int .i64) y46 2 c47)], []⟩ (q27_0_st z48 z48q zc)) ∧ (∃ k, table_CheckRow_l0 k z48 y49) ∧ (rqn 2 (br (!y49) (req true (req true (210 = y))) (req true (req true (0 = y)))))))))) (rqn 2 (∃ y50 : List Int, (table_line_R a0 a1 a2 a3 a4 a5 a6 a7 a8 a9 a10 a11 a12 a13 a14 a15 a16 y50) ∧ (∀ c51 : Nat, Nat.ble (List.length y50) c51 = true → (rqn 10 (((none : Option Nat) = (none : Option Nat)) ∧ (q27_0_body = q27_0_body) ∧ ∃ z52 : table_CheckRow_l0_Z, ∃ z52q : q27_0_Q, ∃ y53 : table_CheckRow_l0_Y, (2 = 2) ∧ (∃ zc : q27_0_C, wk 2 ⟨[(0, (V.agg [(V.int .u32 a0), (vb a1), (vu a2), (vu a3), (vu a4), (vu a5), (vu a6), (vi a7), (vi a8), (vi a9), (vi a10), (vb a11), (vi a12), (vu a13), (vi a14), (vi a15), (V.sl (.int .i64) a16 none)])), (1, (V.ptr 0 0)), (2, (vi 0)), (3, (vb false)), (45, (vb (a13 == 0))), (4, (V.row 1 1 (List.length y50) c51)), (78, (V.row 1 1 (List.length y50) c51)), (79, (vi (((List.length y50) : Nat) : Int))), (80, (vi 0))], [(Blk.cells [(V.int .u32 a0), (vb a1), (vu a2), (vu a3), (vu a4), (vu a5), (vu a6), (vi a7), (vi a8), (vi a9), (vi a10), (vb a11), (vi a12), (vu a13), (vi a14), (vi a15), (V.sl (.int .i64) a16 none)]), (Blk.row (.int .i64) y50 2 c51)], []⟩ (q27_0_st z52 z52q zc)) ∧ (∃ k, table_CheckRow_l0 k z52 y53) ∧ (rqn 2 (br (!y53) (req true (req true (210 = y))) (req true (req true (0 = y)))))))))))))) (rqn 6 (br (a12 == (-1)) (rqn 6 (br (decide (a15 ≥ 0)) (rqn 9 (br (decide (a15 ≤ a10)) (rqn 10 (br (a13 == 0) (rqn 2 (br (decide ((((List.length a16) : Nat) : Int) ≤ 3)) (rqn 6 (br ((a13 == 0) && ((a14 == 0) && ((a15 == 0) && true))) (rqn 8 (∃ y54 : List Int, (table_line_R a0 a1 a2 a3 a4 a5 a6 a7 a8 a9 a10 a11 a12 a13 a14 a15 a16 y54) ∧ (∀ c55 : Nat, Nat.ble (List.length y54) c55 = true → (rqn 3 (br ((((List.length a16) : Nat) : Int) == 0) (rqn 5 (br (a8 == 1) (rqn 4 (req (Nat.beq (List.length y54) (List.length y54)) (∃ y56 : Bool, (table_rise_R y54 y56) ∧ (rqn 5 (((none : Option Nat) = (none : Option Nat)) ∧ (q27_0_body = q27_0_body) ∧ ∃ z57 : table_CheckRow_l0_Z, ∃ z57q : q27_0_Q, ∃ y58 : table_CheckRow_l0_Y, (2 = 2) ∧ (∃ zc : q27_0_C, wk 2 ⟨[(0, (V.agg [(V.int .u32 a0), (vb a1), (vu a2), (vu a3), (vu a4), (vu a5), (vu a6), (vi a7), (vi a8), (vi a9), (vi a10), (vb a11), (vi a12), (vu a13), (vi a14), (vi a15), (V.sl (.int .i64) a16 none)])), (1, (V.ptr 0 0)), (2, (vi 0)), (3, (vb y56)), (45, (vb (a13 == 0))), (4, (V.row 1 1 (List.length y54) c55)), (78, (V.row 1 1 (List.length y54) c55)), (79, (vi (((List.length y54) : Nat) : Int))), (80, (vi 0))], [(Blk.cells [(V.int .u32 a0), (vb a1), (vu a2), (vu a3), (vu a4), (vu a5), (vu a6), (vi a7), (vi a8), (vi a9), (vi a10), (vb a11), (vi a12), (vu a13), (vi a14), (vi a15), (V.sl (.int .i64) a16 none)]), (Blk.row (.int .i64) y54 2 c55)], []⟩ (q27_0_st z57 z57q zc)) ∧ (∃ k, table_CheckRow_l0 k z57 y58) ∧ (rqn 2 (br (!y58) (req true (req true (210 = y))) (req true (req true (0 = y)))))))))) (rqn 7 (br ((((List.length a16) : Nat) : Int) == 0) (req true (req (Nat.beq (List.length y54) (List.length y54)) (∃ y59 : Bool, (table_rise_R y54 y59) ∧ (rqn 5 (((none : Option Nat) = (none : Option Nat)) ∧ (q27_0_body = q27_0_body) ∧ ∃ z60 : table_CheckRow_l0_Z, ∃ z60q : q27_0_Q, ∃ y61 : table_CheckRow_l0_Y, (2 = 2) ∧ (∃ zc : q27_0_C, wk 2 ⟨[(0, (V.agg [(V.int .u32 a0), (vb a1), (vu a2), (vu a3), (vu a4), (vu a5), (vu a6), (vi a7), (vi a8), (vi a9), (vi a10), (vb a11), (vi a12), (vu a13), (vi a14), (vi a15), (V.sl (.int .i64) a16 none)])), (1, (V.ptr 0 0)), (2, (vi 0)), (3, (vb y59)), (45, (vb (a13 == 0))), (4, (V.row 1 1 (List.length y54) c55)), (78, (V.row 1 1 (List.length y54) c55)), (79, (vi (((List.length y54) : Nat) : Int))), (80, (vi 0))], [(Blk.cells [(V.int .u32 a0), (vb a1), (vu a2), (vu a3), (vu a4), (vu a5), (vu a6), (vi a7), (vi a8), (vi a9), (vi a10), (vb a11), (vi a12), (vu a13), (vi a14), (vi a15), (V.sl (.int .i64) a16 none)]), (Blk.row (.int .i64) y54 2 c55)], []⟩ (q27_0_st z60 z60q zc)) ∧ (∃ k, table_CheckRow_l0 k z60 y61) ∧ (rqn 2 (br (!y61) (req true (req true (210 = y))) (req true (req true (0 = y)))))))))) (rqn 5 (((none : Option Nat) = (none : Option Nat)) ∧ (q27_0_body = q27_0_body) ∧ ∃ z62 : table_CheckRow_l0_Z, ∃ z62q : q27_0_Q, ∃ y63 : table_CheckRow_l0_Y, (2 = 2) ∧ (∃ zc : q27_0_C, wk 2 ⟨[(0, (V.agg [(V.int .u32 a0), (vb a1), (vu a2), (vu a3), (vu a4), (vu a5), (vu a6), (vi a7), (vi a8), (vi a9), (vi a10), (vb a11), (vi a12), (vu a13), (vi a14), (vi a15), (V.sl (.int .i64) a16 none)])), (1, (V.ptr 0 0)), (2, (vi 0)), (3, (vb false)), (45, (vb (a13 == 0))), (4, (V.row 1 1 (List.length y54) c55)), (78, (V.row 1 1 (List.length y54) c55)), (79, (vi (((List.length y54) : Nat) : Int))), (80, (vi 0))], [(Blk.cells [(V.int .u32 a0), (vb a1), (vu a2), (vu a3), (vu a4), (vu a5), (vu a6), (vi a7), (vi a8), (vi a9), (vi a10), (vb a11), (vi a12), (vu a13), (vi a14), (vi a15), (V.sl (.int .i64) a16 none)]), (Blk.row (.int .i64) y54 2 c55)], []⟩ (q27_0_st z62 z62q zc)) ∧ (∃ k, table_CheckRow_l0 k z62 y63) ∧ (rqn 2 (br (!y63) (req true (req true (210 = y))) (req true (req true (0 = y))))))))))) (rqn 7 (((none : Option Nat) = (none : Option Nat)) ∧ (q27_0_body = q27_0_body) ∧ ∃ z64 : table_CheckRow_l0_Z, ∃ z64q : q27_0_Q, ∃ y65 : table_CheckRow_l0_Y, (2 = 2) ∧ (∃ zc : q27_0_C, wk 2 ⟨[(0, (V.agg [(V.int .u32 a0), (vb a1), (vu a2), (vu a3), (vu a4), (vu a5), (vu a6), (vi a7), (vi a8), (vi a9), (vi a10), (vb a11), (vi a12), (vu a13), (vi a14), (vi a15), (V.sl (.int .i64) a16 none)])), (1, (V.ptr 0 0)), (2, (vi 0)), (3, (vb false)), (45, (vb (a13 == 0))), (4, (V.row 1 1 (List.length y54) c55)), (78, (V.row 1 1 (List.length y54) c55)), (79, (vi (((List.length y54) : Nat) : Int))), (80, (vi 0))], [(Blk.cells [(V.int .u32 a0), (vb a1), (vu a2), (vu a3), (vu a4), (vu a5), (vu a6), (vi a7), (vi a8), (vi a9), (vi a10), (vb a11), (vi a12), (vu a13), (vi a14), (vi a15), (V.sl (.int .i64) a16 none)]), (Blk.row (.int .i64) y54 2 c55)], []⟩ (q27_0_st z64 z64q zc)) ∧ (∃ k, table_CheckRow_l0 k z64 y65) ∧ (rqn 2 (br (!y65) (req true (req true (210 = y))) (req true (req true (0 = y)))))))))))) (rqn 4 (∃ y66 : List Int, (table_line_R a0 a1 a2 a3 a4 a5 a6 a7 a8 a9 a10 a11 a12 a13 a14 a15 a16 y66) ∧ (∀ c67 : Nat, Nat.ble (List.length y66) c67 = true → (rqn 10 (((none : Option Nat) = (none : Option Nat)) ∧ (q27_0_body = q27_0_body) ∧ ∃ z68 : table_CheckRow_l0_Z, ∃ z68q : q27_0_Q, ∃ y69 : table_CheckRow_l0_Y, (2 = 2) ∧ (∃ zc : q27_0_C, wk 2 ⟨[(0, (V.agg [(V.int .u32 a0), (vb a1), (vu a2), (vu a3), (vu a4), (vu a5), (vu a6), (vi a7), (vi a8), (vi a9), (vi a10), (vb a11), (vi a12), (vu a13), (vi a14), (vi a15), (V.sl (.int .i64) a16 none)])), (1, (V.ptr 0 0)), (2, (vi 0)), (3, (vb false)), (45, (vb (a13 == 0))), (4, (V.row 1 1 (List.length y66) c67)), (78, (V.row 1 1 (List.length y66) c67)), (79, (vi (((List.length y66) : Nat) : Int))), (80, (vi 0))], [(Blk.cells [(V.int .u32 a0), (vb a1), (vu a2), (vu a3), (vu a4), (vu a5), (vu a6), (vi a7), (vi a8), (vi a9), (vi a10), (vb a11), (vi a12), (vu a13), (vi a14), (vi a15), (V.sl (.int .i64) a16 none)]), (Blk.row (.int .i64) y66 2 c67)], []⟩ (q27_0_st z68 z68q zc)) ∧ (∃ k, table_CheckRow_l0 k z68 y69) ∧ (rqn 2 (br (!y69) (req true (req true (210 = y))) (req true (req true (0 = y)))))))))))) (rqn 6 (∃ y70 : List Int, (table_line_R a0 a1 a2 a3 a4 a5 a6 a7 a8 a9 a10 a11 a12 a13 a14 a15 a16 y70) ∧ (∀ c71 : Nat, Nat.ble (List.length y70) c71 = true → (rqn 10 (((none : Option Nat) = (none : Option Nat)) ∧ (q27_0_body = q27_0_body) ∧ ∃ z72 : table_CheckRow_l0_Z, ∃ z72q : q27_0_Q, ∃ y73 : table_CheckRow_l0_Y, (2 = 2) ∧ (∃ zc : q27_0_C, wk 2 ⟨[(0, (V.agg [(V.int .u32 a0), (vb a1), (vu a2), (vu a3), (vu a4), (vu a5), (vu a6), (vi a7), (vi a8), (vi a9), (vi a10), (vb a11), (vi a12), (vu a13), (vi a14), (vi a15), (V.sl (.int .i64) a16 none)])), (1, (V.ptr 0 0)), (2, (vi 0)), (3, (vb false)), (45, (vb (a13 == 0))), (4, (V.row 1 1 (List.length y70) c71)), (78, (V.row 1 1 (List.length y70) c71)), (79, (vi (((List.length y70) : Nat) : Int))), (80, (vi 0))], [(Blk.cells [(V.int .u32 a0), (vb a1), (vu a2), (vu a3), (vu a4), (vu a5), (vu a6), (vi a7), (vi a8), (vi a9), (vi a10), (vb a11), (vi a12), (vu a13), (vi a14), (vi a15), (V.sl (.int .i64) a16 none)]), (Blk.row (.int .i64) y70 2 c71)], []⟩ (q27_0_st z72 z72q zc)) ∧ (∃ k, table_CheckRow_l0 k z72 y73) ∧ (rqn 2 (br (!y73) (req true (req true (210 = y))) (req true (req true (0 = y)))))))))))) (rqn 2 (∃ y74 : List Int, (table_line_R a0 a1 a2 a3 a4 a5 a6 a7 a8 a9 a10 a11 a12 a13 a14 a15 a16 y74) ∧ (∀ c75 : Nat, Nat.ble (List.length y74) c75 = true → (rqn 3 (br (decide ((((List.length a16) : Nat) : Int) ≤ 3)) (rqn 5 (br (a8 == 1) (rqn 4 (req (Nat.beq (List.length y74) (List.length y74)) (∃ y76 : Bool, (table_rise_R y74 y76) ∧ (rqn 5 (((none : Option Nat) = (none : Option Nat)) ∧ (q27_0_body = q27_0_body) ∧ ∃ z77 : table_CheckRow_l0_Z, ∃ z77q : q27_0_Q, ∃ y78 : table_CheckRow_l0_Y, (2 = 2) ∧ (∃ zc : q27_0_C, wk 2 ⟨[(0, (V.agg [(V.int .u32 a0), (vb a1), (vu a2), (vu a3), (vu a4), (vu a5), (vu a6), (vi a7), (vi a8), (vi a9), (vi a10), (vb a11), (vi a12), (vu a13), (vi a14), (vi a15), (V.sl (.int .i64) a16 none)])), (1, (V.ptr 0 0)), (2, (vi 0)), (3, (vb y76)), (45, (vb (a13 == 0))), (4, (V.row 1 1 (List.length y74) c75)), (78, (V.row 1 1 (List.length y74) c75)), (79, (vi (((List.length y74) : Nat) : Int))), (80, (vi 0))], [(Blk.cells [(V.int .u32 a0), (vb a1), (vu a2), (vu a3), (vu a4), (vu a5), (vu a6), (vi a7), (vi a8), (vi a9), (vi a10), (vb a11), (vi a12), (vu a13), (vi a14), (vi a15), (V.sl (.int .i64) a16 none)]), (Blk.row (.int .i64) y74 2 c75)], []⟩ (q27_0_st z77 z77q zc)) ∧ (∃ k, table_CheckRow_l0 k z77 y78) ∧ (rqn 2 (br (!y78) (req true (req true (210 = y))) (req true (req true (0 = y)))))))))) (rqn 7 (br ((((List.length a16) : Nat) : Int) == 0) (req true (req (Nat.beq (List.length y74) (List.length y74)) (∃ y79 : Bool, (table_rise_R y74 y79) ∧ (rqn 5 (((none : Option Nat) = (none : Option Nat)) ∧ (q27_0_body = q27_0_body) ∧ ∃ z80 : table_CheckRow_l0_Z, ∃ z80q : q27_0_Q, ∃ y81 : table_CheckRow_l0_Y, (2 = 2) ∧ (∃ zc : q27_0_C, wk 2 ⟨[(0, (V.agg [(V.int .u32 a0), (vb a1), (vu a2), (vu a3), (vu a4), (vu a5), (vu a6), (vi a7), (vi a8), (vi a9), (vi a10), (vb a11), (vi a12), (vu a13), (vi a14), (vi a15), (V.sl (.int .i64) a16 none)])), (1, (V.ptr 0 0)), (2, (vi 0)), (3, (vb y79)), (45, (vb (a13 == 0))), (4, (V.row 1 1 (List.length y74) c75)), (78, (V.row 1 1 (List.length y74) c75)), (79, (vi (((List.length y74) : Nat) : Int))), (80, (vi 0))], [(Blk.cells [(V.int .u32 a0), (vb a1), (vu a2), (vu a3), (vu a4), (vu a5), (vu a6), (vi a7), (vi a8), (vi a9), (vi a10), (vb a11), (vi a12), (vu a13), (vi a14), (vi a15), (V.sl (.int .i64) a16 none)]), (Blk.row (.int .i64) y74 2 c75)], []⟩ (q27_0_st z80 z80q zc)) ∧ (∃ k, table_CheckRow_l0 k z80 y81) ∧ (rqn 2 (br (!y81) (req true (req true (210 = y))) (req true (req true (0 = y)))))))))) (rqn 5 (((none : Option Nat) = (none : Option Nat)) ∧ (q27_0_body = q27_0_body) ∧ ∃ z82 : table_CheckRow_l0_Z, ∃ z82q : q27_0_Q, ∃ y83 : table_CheckRow_l0_Y, (2 = 2) ∧ (∃ zc : q27_0_C, wk 2 ⟨[(0, (V.agg [(V.int .u32 a0), (vb a1), (vu a2), (vu a3), (vu a4), (vu a5), (vu a6), (vi a7), (vi a8), (vi a9), (vi a10), (vb a11), (vi a12), (vu a13), (vi a14), (vi a15), (V.sl (.int .i64) a16 none)])), (1, (V.ptr 0 0)), (2, (vi 0)), (3, (vb false)), (45, (vb (a13 == 0))), (4, (V.row 1 1 (List.length y74) c75)), (78, (V.row 1 1 (List.length y74) c75)), (79, (vi (((List.length y74) : Nat) : Int))), (80, (vi 0))], [(Blk.cells [(V.int .u32 a0), (vb a1), (vu a2), (vu a3), (vu a4), (vu a5), (vu a6), (vi a7), (vi a8), (vi a9), (vi a10), (vb a11), (vi a12), (vu a13), (vi a14), (vi a15), (V.sl (.int .i64) a16 none)]), (Blk.row (.int .i64) y74 2 c75)], []⟩ (q27_0_st z82 z82q zc)) ∧ (∃ k, table_CheckRow_l0 k z82 y83) ∧ (rqn 2 (br (!y83) (req true (req true (210 = y))) (req true (req true (0 = y))))))))))) (rqn 7 (((none : Option Nat) = (none : Option Nat)) ∧ (q27_0_body = q27_0_body) ∧ ∃ z84 : table_CheckRow_l0_Z, ∃ z84q : q27_0_Q, ∃ y85 : table_CheckRow_l0_Y, (2 = 2) ∧ (∃ zc : q27_0_C, wk 2 ⟨[(0, (V.agg [(V.int .u32 a0), (vb a1), (vu a2), (vu a3), (vu a4), (vu a5), (vu a6), (vi a7), (vi a8), (vi a9), (vi a10), (vb a11), (vi a12), (vu a13), (vi a14), (vi a15), (V.sl (.int .i64) a16 none)])), (1, (V.ptr 0 0)), (2, (vi 0)), (3, (vb false)), (45, (vb (a13 == 0))), (4, (V.row 1 1 (List.length y74) c75)), (78, (V.row 1 1 (List.length y74) c75)), (79, (vi (((List.length y74) : Nat) : Int))), (80, (vi 0))], [(Blk.cells [(V.int .u32 a0), (vb a1), (vu a2), (vu a3), (vu a4), (vu a5), (vu a6), (vi a7), (vi a8), (vi a9), (vi a10), (vb a11), (vi a12), (vu a13), (vi a14), (vi a15), (V.sl (.int .i64) a16 none)]), (Blk.row (.int .i64) y74 2 c75)], []⟩ (q27_0_st z84 z84q zc)) ∧ (∃ k, table_CheckRow_l0 k z84 y85) ∧ (rqn 2 (br (!y85) (req true (req true (210 = y))) (req true (req true (0 = y)))))))))))))) (rqn 6 (br (a13 == 0) (rqn 8 (∃ y86 : List Int, (table_line_R a0 a1 a2 a3 a4 a5 a6 a7 a8 a9 a10 a11 a12 a13 a14 a15 a16 y86) ∧ (∀ c87 : Nat, Nat.ble (List.length y86) c87 = true → (rqn 10 (((none : Option Nat) = (none : Option Nat)) ∧ (q27_0_body = q27_0_body) ∧ ∃ z88 : table_CheckRow_l0_Z, ∃ z88q : q27_0_Q, ∃ y89 : table_CheckRow_l0_Y, (2 = 2) ∧ (∃ zc : q27_0_C, wk 2 ⟨[(0, (V.agg [(V.int .u32 a0), (vb a1), (vu a2), (vu a3), (vu a4), (vu a5), (vu a6), (vi a7), (vi a8), (vi a9), (vi a10), (vb a11), (vi a12), (vu a13), (vi a14), (vi a15), (V.sl (.int .i64) a16 none)])), (1, (V.ptr 0 0)), (2, (vi 0)), (3, (vb false)), (45, (vb (a13 == 0))), (4, (V.row 1 1 (List.length y86) c87)), (78, (V.row 1 1 (List.length y86) c87)), (79, (vi (((List.length y86) : Nat) : Int))), (80, (vi 0))], [(Blk.cells [(V.int .u32 a0), (vb a1), (vu a2), (vu a3), (vu a4), (vu a5), (vu a6), (vi a7), (vi a8), (vi a9), (vi a10), (vb a11), (vi a12), (vu a13), (vi a14), (vi a15), (V.sl (.int .i64) a16 none)]), (Blk.row (.int .i64) y86 2 c87)], []⟩ (q27_0_st z88 z88q zc)) ∧ (∃ k, table_CheckRow_l0 k z88 y89) ∧ (rqn 2 (br (!y89) (req true (req true (210 = y))) (req true (req true (0 = y)))))))))) (rqn 2 (∃ y90 : List Int, (table_line_R a0 a1 a2 a3 a4 a5 a6 a7 a8 a9 a10 a11 a12 a13 a14 a15 a16 y90) ∧ (∀ c91 : Nat, Nat.ble (List.length y90) c91 = true → (rqn 10 (((none : Option Nat) = (none : Option Nat)) ∧ (q27_0_body = q27_0_body) ∧ ∃ z92 : table_CheckRow_l0_Z, ∃ z92q : q27_0_Q, ∃ y93 : table_CheckRow_l0_Y, (2 = 2) ∧ (∃ zc : q27_0_C, wk 2 ⟨[(0, (V.agg [(V.int .u32 a0), (vb a1), (vu a2), (vu a3), (vu a4), (vu a5), (vu a6), (vi a7), (vi a8), (vi a9), (vi a10), (vb a11), (vi a12), (vu a13), (vi a14), (vi a15), (V.sl (.int .i64) a16 none)])), (1, (V.ptr 0 0)), (2, (vi 0)), (3, (vb false)), (45, (vb (a13 == 0))), (4, (V.row 1 1 (List.length y90) c91)), (78, (V.row 1 1 (List.length y90) c91)), (79, (vi (((List.length y90) : Nat) : Int))), (80, (vi 0))], [(Blk.cells [(V.int .u32 a0), (vb a1), (vu a2), (vu a3), (vu a4), (vu a5), (vu a6), (vi a7), (vi a8), (vi a9), (vi a10), (vb a11), (vi a12), (vu a13), (vi a14), (vi a15), (V.sl (.int .i64) a16 none)]), (Blk.row (.int .i64) y90 2 c91)], []⟩ (q27_0_st z92 z92q zc)) ∧ (∃ k, table_CheckRow_l0 k z92 y93) ∧ (rqn 2 (br (!y93) (req true (req true (210 = y))) (req true (req true (0 = y)))))))))))))) (rqn 8 (br (a13 == 0) (rqn 8 (∃ y94 : List Int, (table_line_R a0 a1 a2 a3 a4 a5 a6 a7 a8 a9 a10 a11 a12 a13 a14 a15 a16 y94) ∧ (∀ c95 : Nat, Nat.ble (List.length y94) c95 = true → (rqn 10 (((none : Option Nat) = (none : Option Nat)) ∧ (q27_0_body = q27_0_body) ∧ ∃ z96 : table_CheckRow_l0_Z, ∃ z96q : q27_0_Q, ∃ y97 : table_CheckRow_l0_Y, (2 = 2) ∧ (∃ zc : q27_0_C, wk 2 ⟨[(0, (V.agg [(V.int .u32 a0), (vb a1), (vu a2), (vu a3), (vu a4), (vu a5), (vu a6), (vi a7), (vi a8), (vi a9), (vi a10), (vb a11), (vi a12), (vu a13), (vi a14), (vi a15), (V.sl (.int .i64) a16 none)])), (1, (V.ptr 0 0)), (2, (vi 0)), (3, (vb false)), (45, (vb (a13 == 0))), (4, (V.row 1 1 (List.length y94) c95)), (78, (V.row 1 1 (List.length y94) c95)), (79, (vi (((List.length y94) : Nat) : Int))), (80, (vi 0))], [(Blk.cells [(V.int .u32 a0), (vb a1), (vu a2), (vu a3), (vu a4), (vu a5), (vu a6), (vi a7), (vi a8), (vi a9), (vi a10), (vb a11), (vi a12), (vu a13), (vi a14), (vi a15), (V.sl (.int .i64) a16 none)]), (Blk.row (.int .i64) y94 2 c95)], []⟩ (q27_0_st z96 z96q zc)) ∧ (∃ k, table_CheckRow_l0 k z96 y97) ∧ (rqn 2 (br (!y97) (req true (req true (210 = y))) (req true (req true (0 = y)))))))))) (rqn 2 (∃ y98 : List Int, (table_line_R a0 a1 a2 a3 a4 a5 a6 a7 a8 a9 a10 a11 a12 a13 a14 a15 a16 y98) ∧ (∀ c99 : Nat, Nat.ble (List.length y98) c99 = true → (rqn 10 (((none : Option Nat) = (none : Option Nat)) ∧ (q27_0_body = q27_0_body) ∧ ∃ z100 : table_CheckRow_l0_Z, ∃ z100q : q27_0_Q, ∃ y101 : table_CheckRow_l0_Y, (2 = 2) ∧ (∃ zc : q27_0_C, wk 2 ⟨[(0, (V.agg [(V.int .u32 a0), (vb a1), (vu a2), (vu a3), (vu a4), (vu a5), (vu a6), (vi a7), (vi a8), (vi a9), (vi a10), (vb a11), (vi a12), (vu a13), (vi a14), (vi a15), (V.sl (.int .i64) a16 none)])), (1, (V.ptr 0 0)), (2, (vi 0)), (3, (vb false)), (45, (vb (a13 == 0))), (4, (V.row 1 1 (List.length y98) c99)), (78, (V.row 1 1 (List.length y98) c99)), (79, (vi (((List.length y98) : Nat) : Int))), (80, (vi 0))], [(Blk.cells [(V.int .u32 a0), (vb a1), (vu a2), (vu a3), (vu a4), (vu a5), (vu a6), (vi a7), (vi a8), (vi a9), (vi a10), (vb a11), (vi a12), (vu a13), (vi a14), (vi a15), (V.sl (.int .i64) a16 none)]), (Blk.row (.int .i64) y98 2 c99)], []⟩ (q27_0_st z100 z100q zc)) ∧ (∃ k, table_CheckRow_l0 k z100 y101) ∧ (rqn 2 (br (!y101) (req true (req true (210 = y))) (req true (req true (0 = y)))))))))))))) (rqn 10 (br (a13 == 0) (rqn 8 (∃ y102 : List Int, (table_line_R a0 a1 a2 a3 a4 a5 a6 a7 a8 a9 a10 a11 a12 a13 a14 a15 a16 y102) ∧ (∀ c103 : Nat, Nat.ble (List.length y102) c103 = true → (rqn 10 (((none : Option Nat) = (none : Option Nat)) ∧ (q27_0_body = q27_0_body) ∧ ∃ z104 : table_CheckRow_l0_Z, ∃ z104q : q27_0_Q, ∃ y105 : table_CheckRow_l0_Y, (2 = 2) ∧ (∃ zc : q27_0_C, wk 2 ⟨[(0, (V.agg [(V.int .u32 a0), (vb a1), (vu a2), (vu a3), (vu a4), (vu a5), (vu a6), (vi a7), (vi a8), (vi a9), (vi a10), (vb a11), (vi a12), (vu a13), (vi a14), (vi a15), (V.sl (.int .i64) a16 none)])), (1, (V.ptr 0 0)), (2, (vi 0)), (3, (vb false)), (45, (vb (a13 == 0))), (4, (V.row 1 1 (List.length y102) c103)), (78, (V.row 1 1 (List.length y102) c103)), (79, (vi (((List.length y102) : Nat) : Int))), (80, (vi 0))], [(Blk.cells [(V.int .u32 a0), (vb a1), (vu a2), (vu a3), (vu a4), (vu a5), (vu a6), (vi a7), (vi a8), (vi a9), (vi a10), (vb a11), (vi a12), (vu a13), (vi a14), (vi a15), (V.sl (.int .i64) a16 none)]), (Blk.row (.int .i64) y102 2 c103)], []⟩ (q27_0_st z104 z104q zc)) ∧ (∃ k, table_CheckRow_l0 k z104 y105) ∧ (rqn 2 (br (!y105) (req true (req true (210 = y))) (req true (req true (0 = y)))))))))) (rqn 2 (∃ y106 : List Int, (table_line_R a0 a1 a2 a3 a4 a5 a6 a7 a8 a9 a10 a11 a12 a13 a14 a15 a16 y106) ∧ (∀ c107 : Nat, Nat.ble (List.length y106) c107 = true → (rqn 10 (((none : Option Nat) = (none : Option Nat)) ∧ (q27_0_body = q27_0_body) ∧ ∃ z108 : table_CheckRow_l0_Z, ∃ z108q : q27_0_Q, ∃ y109 : table_CheckRow_l0_Y, (2 = 2) ∧ (∃ zc : q27_0_C, wk 2 ⟨[(0, (V.agg [(V.int .u32 a0), (vb a1), (vu a2), (vu a3), (vu a4), (vu a5), (vu a6), (vi a7), (vi a8), (vi a9), (vi a10), (vb a11), (vi a12), (vu a13), (vi a14), (vi a15), (V.sl (.int .i64) a16 none)])), (1, (V.ptr 0 0)), (2, (vi 0)), (3, (vb false)), (45, (vb (a13 == 0))), (4, (V.row 1 1 (List.length y106) c107)), (78, (V.row 1 1 (List.length y106) c107)), (79, (vi (((List.length y106) : Nat) : Int))), (80, (vi 0))], [(Blk.cells [(V.int .u32 a0), (vb a1), (vu a2), (vu a3), (vu a4), (vu a5), (vu a6), (vi a7), (vi a8), (vi a9), (vi a10), (vb a11), (vi a12), (vu a13), (vi a14), (vi a15), (V.sl (.int .i64) a16 none)]), (Blk.row (.int .i64) y106 2 c107)], []⟩ (q27_0_st z108 z108q zc)) ∧ (∃ k, table_CheckRow_l0 k z108 y109) ∧ (rqn 2 (br (!y109) (req true (req true (210 = y))) (req true (req true (0 = y)))))))))))))))) (rqn 12 (br (a13 == 0) (rqn 8 (∃ y110 : List Int, (table_line_R a0 a1 a2 a3 a4 a5 a6 a7 a8 a9 a10 a11 a12 a13 a14 a15 a16 y110) ∧ (∀ c111 : Nat, Nat.ble (List.length y110) c111 = true → (rqn 10 (((none : Option Nat) = (none : Option Nat)) ∧ (q27_0_body = q27_0_body) ∧ ∃ z112 : table_CheckRow_l0_Z, ∃ z112q : q27_0_Q, ∃ y113 : table_CheckRow_l0_Y, (2 = 2) ∧ (∃ zc : q27_0_C, wk 2 ⟨[(0, (V.agg [(V.int .u32 a0), (vb a1), (vu a2), (vu a3), (vu a4), (vu a5), (vu a6), (vi a7), (vi a8), (vi a9), (vi a10), (vb a11), (vi a12), (vu a13), (vi a14), (vi a15), (V.sl (.int .i64) a16 none)])), (1, (V.ptr 0 0)), (2, (vi 0)), (3, (vb false)), (45, (vb (a13 == 0))), (4, (V.row 1 1 (List.length y110) c111)), (78, (V.row 1 1 (List.length y110) c111)), (79, (vi (((List.length y110) : Nat) : Int))), (80, (vi 0))], [(Blk.cells [(V.int .u32 a0), (vb a1), (vu a2), (vu a3), (vu a4), (vu a5), (vu a6), (vi a7), (vi a8), (vi a9), (vi a10), (vb a11), (vi a12), (vu a13), (vi a14), (vi a15), (V.sl (.int .i64) a16 none)]), (Blk.row (.int .i64) y110 2 c111)], []⟩ (q27_0_st z112 z112q zc)) ∧ (∃ k, table_CheckRow_l0 k z112 y113) ∧ (rqn 2 (br (!y113) (req true (req true (210 = y))) (req true (req true (0 = y)))))))))) (rqn 2 (∃ y114 : List Int, (table_line_R a0 a1 a2 a3 a4 a5 a6 a7 a8 a9 a10 a11 a12 a13 a14 a15 a16 y114) ∧ (∀ c115 : Nat, Nat.ble (List.length y114) c115 = true → (rqn 10 (((none : Option Nat) = (none : Option Nat)) ∧ (q27_0_body = q27_0_body) ∧ ∃ z116 : table_CheckRow_l0_Z, ∃ z116q : q27_0_Q, ∃ y117 : table_CheckRow_l0_Y, (2 = 2) ∧ (∃ zc : q27_0_C, wk 2 ⟨[(0, (V.agg [(V.int .u32 a0), (vb a1), (vu a2), (vu a3), (vu a4), (vu a5), (vu a6), (vi a7), (vi a8), (vi a9), (vi a10), (vb a11), (vi a12), (vu a13), (vi a14), (vi a15), (V.sl (.int .i64) a16 none)])), (1, (V.ptr 0 0)), (2, (vi 0)), (3, (vb false)), (45, (vb (a13 == 0))), (4, (V.row 1 1 (List.length y114) c115)), (78, (V.row 1 1 (List.length y114) c115)), (79, (vi (((List.length y114) : Nat) : Int))), (80, (vi 0))], [(Blk.cells [(V.int .u32 a0), (vb a1), (vu a2), (vu a3), (vu a4), (vu a5), (vu a6), (vi a7), (vi a8), (vi a9), (vi a10), (vb a11), (vi a12), (vu a13), (vi a14), (vi a15), (V.sl (.int .i64) a16 none)]), (Blk.row (.int .i64) y114 2 c115)], []⟩ (q27_0_st z116 z116q zc)) ∧ (∃ k, table_CheckRow_l0 k z116 y117) ∧ (rqn 2 (br (!y117) (req true (req true (210 = y))) (req true (req true (0 = y)))))))))))))))) := by kernel_rfl
theorem q27_run (a0 : Int) (a1 : Bool) (a2 : Int) (a3 : Int) (a4 : Int) (a5 : Int) (a6 : Int) (a7 : Int) (a8 : Int) (a9 : Int) (a10 : Int) (a11 : Bool) (a12 : Int) (a13 : Int) (a14 : Int) (a15 : Int) (a16 : List Int) (y : Int) (h : table_CheckRow_R a0 a1 a2 a3 a4 a5 a6 a7 a8 a9 a10 a11 a12 a13 a14 a15 a16 y) : acall q27_cx okT q27_lp 60 (.fn 27 [] []) [(V.agg [(V.int .u32 a0), (V.bool a1), (V.int .u64 a2), (V.int .u64 a3), (V.int .u64 a4), (V.int .u64 a5), (V.int .u64 a6), (V.int .i64 a7), (V.int .i64 a8), (V.int .i64 a9), (V.int .i64 a10), (V.bool a11), (V.int .i64 a12), (V.int .u64 a13), (V.int .i64 a14), (V.int .i64 a15), (V.sl (.int .i64) a16 none)])] [] (leafK (.int .i64) y) := by
  refine cast (q27_tree a0 a1 a2 a3 a4 a5 a6 a7 a8 a9 a10 a11 a12 a13 a14 a15 a16 y).symm ?_
  unfold table_CheckRow_R at h
  refine rqn_intro 4 ?_
  refine ex_both h fun y1 h => ?_
  refine rqn_intro 2 ?_
  refine br_both h (fun hb h => ?_) (fun hb h => ?_)
  · refine rqn_intro 4 ?_
    refine br_both h (fun hb h => ?_) (fun hb h => ?_)
    · refine rqn_intro 9 ?_
      refine br_both h (fun hb h => ?_) (fun hb h => ?_)
      · refine rqn_intro 9 ?_
        refine br_both h (fun hb h => ?_) (fun hb h => ?_)
        · refine rqn_intro 10 ?_
          refine br_both h (fun hb h => ?_) (fun hb h => ?_)
          · refine rqn_intro 2 ?_
            refine br_both h (fun hb h => ?_) (fun hb h => ?_)
            · refine rqn_intro 6 ?_
              refine br_both h (fun hb h => ?_) (fun hb h => ?_)
              · refine rqn_intro 8 ?_
                refine ex_both h fun y2 h => ?_
                intro c3 hc3
                refine rqn_intro 3 ?_
                refine br_both h (fun hb h => ?_) (fun hb h => ?_)
                · refine rqn_intro 5 ?_
                  refine br_both h (fun hb h => ?_) (fun hb h => ?_)
                  · refine rqn_intro 4 ?_
                    refine req_intro (Nat.beq_refl _) ?_
                    refine ex_both h fun y4 h => ?_
                    refine rqn_intro 5 ?_
                    obtain ⟨y10, ry10, h⟩ := h
                    refine ⟨rfl, rfl, (y2, a0, a1, a2, a3, a4, a5, a6, a7, a8, a9, a10, a11, a12, a13, a14, a15, a16, y4, (((List.length y2) : Nat) : Int), 0), c3, y10, rfl, ⟨(), wk_of (Or.inr ⟨⟨Or.inl rfl, Or.inl rfl, Or.inl rfl, Or.inl rfl, Or.inl rfl, trivial⟩, ⟨Or.inl rfl, Or.inl rfl, trivial⟩, rfl, rfl, rfl⟩)⟩, ry10, ?_⟩
                    refine rqn_intro 2 ?_
                    refine br_both h (fun hb h => ?_) (fun hb h => ?_)
                    · refine req_intro rfl ?_
                      exact req_intro rfl h
                    · refine req_intro rfl ?_
                      exact req_intro rfl h
                  · refine rqn_intro 7 ?_
                    refine br_both h (fun hb h => ?_) (fun hb h => ?_)
                    · refine req_intro rfl ?_
                      refine req_intro (Nat.beq_refl _) ?_
                      refine ex_both h fun y11 h => ?_
                      refine rqn_intro 5 ?_
                      obtain ⟨y13, ry13, h⟩ := h
                      refine ⟨rfl, rfl, (y2, a0, a1, a2, a3, a4, a5, a6, a7, a8, a9, a10, a11, a12, a13, a14, a15, a16, y11, (((List.length y2) : Nat) : Int), 0), c3, y13, rfl, ⟨(), wk_of (Or.inr ⟨⟨Or.inl rfl, Or.inl rfl, Or.inl rfl, Or.inl rfl, Or.inl rfl, trivial⟩, ⟨Or.inl rfl, Or.inl rfl, trivial⟩, rfl, rfl, rfl⟩)⟩, ry13, ?_⟩
                      refine rqn_intro 2 ?_
                      refine br_both h (fun hb h => ?_) (fun hb h => ?_)
                      · refine req_intro rfl ?_
                        exact req_intro rfl h
                      · refine req_intro rfl ?_
                        exact req_intro rfl h
                    · refine rqn_intro 5 ?_
                      obtain ⟨y15, ry15, h⟩ := h
                      refine ⟨rfl, rfl, (y2, a0, a1, a2, a3, a4, a5, a6, a7, a8, a9, a10, a11, a12, a13, a14, a15, a16, false, (((List.length y2) : Nat) : Int), 0), c3, y15, rfl, ⟨(), wk_of (Or.inr ⟨⟨Or.inl rfl, Or.inl rfl, Or.inl rfl, Or.inl rfl, Or.inl rfl, trivial⟩, ⟨Or.inl rfl, Or.inl rfl, trivial⟩, rfl, rfl, rfl⟩)⟩, ry15, ?_⟩
                      refine rqn_intro 2 ?_
                      refine br_both h (fun hb h => ?_) (fun hb h => ?_)
                      · refine req_intro rfl ?_
                        exact req_intro rfl h
                      · refine req_intro rfl ?_
                        exact req_intro rfl h
                · refine rqn_intro 7 ?_
                  obtain ⟨y17, ry17, h⟩ := h
                  refine ⟨rfl, rfl, (y2, a0, a1, a2, a3, a4, a5, a6, a7, a8, a9, a10, a11, a12, a13, a14, a15, a16, false, (((List.length y2) : Nat) : Int), 0), c3, y17, rfl, ⟨(), wk_of (Or.inr ⟨⟨Or.inl rfl, Or.inl rfl, Or.inl rfl, Or.inl rfl, Or.inl rfl, trivial⟩, ⟨Or.inl rfl, Or.inl rfl, trivial⟩, rfl, rfl, rfl⟩)⟩, ry17, ?_⟩
                  refine rqn_intro 2 ?_
                  refine br_both h (fun hb h => ?_) (fun hb h => ?_)
                  · refine req_intro rfl ?_
                    exact req_intro rfl h
                  · refine req_intro rfl ?_
                    exact req_intro rfl h
              · refine rqn_intro 4 ?_
                refine ex_both h fun y18 h => ?_
                intro c19 hc19
                refine rqn_intro 10 ?_
                obtain ⟨y21, ry21, h⟩ := h
                refine ⟨rfl, rfl, (y18, a0, a1, a2, a3, a4, a5, a6, a7, a8, a9, a10, a11, a12, a13, a14, a15, a16, false, (((List.length y18) : Nat) : Int), 0), c19, y21, rfl, ⟨(), wk_of (Or.inr ⟨⟨Or.inl rfl, Or.inl rfl, Or.inl rfl, Or.inl rfl, Or.inl rfl, trivial⟩, ⟨Or.inl rfl, Or.inl rfl, trivial⟩, rfl, rfl, rfl⟩)⟩, ry21, ?_⟩
                refine rqn_intro 2 ?_
                refine br_both h (fun hb h => ?_) (fun hb h => ?_)
                · refine req_intro rfl ?_
                  exact req_intro rfl h
                · refine req_intro rfl ?_
                  exact req_intro rfl h
            · refine rqn_intro 6 ?_
              refine ex_both h fun y22 h => ?_
              intro c23 hc23
              refine rqn_intro 10 ?_
              obtain ⟨y25, ry25, h⟩ := h
              refine ⟨rfl, rfl, (y22, a0, a1, a2, a3, a4, a5, a6, a7, a8, a9, a10, a11, a12, a13, a14, a15, a16, false, (((List.length y22) : Nat) : Int), 0), c23, y25, rfl, ⟨(), wk_of (Or.inr ⟨⟨Or.inl rfl, Or.inl rfl, Or.inl rfl, Or.inl rfl, Or.inl rfl, trivial⟩, ⟨Or.inl rfl, Or.inl rfl, trivial⟩, rfl, rfl, rfl⟩)⟩, ry25, ?_⟩
              refine rqn_intro 2 ?_
              refine br_both h (fun hb h => ?_) (fun hb h => ?_)
              · refine req_intro rfl ?_
                exact req_intro rfl h
              · refine req_intro rfl ?_
                exact req_intro rfl h
          · refine rqn_intro 2 ?_
            refine ex_both h fun y26 h => ?_
            intro c27 hc27
            refine rqn_intro 3 ?_
            refine br_both h (fun hb h => ?_) (fun hb h => ?_)
            · refine rqn_intro 5 ?_
              refine br_both h (fun hb h => ?_) (fun hb h => ?_)
              · refine rqn_intro 4 ?_
                refine req_intro (Nat.beq_refl _) ?_
                refine ex_both h fun y28 h => ?_
                refine rqn_intro 5 ?_
                obtain ⟨y30, ry30, h⟩ := h
                refine ⟨rfl, rfl, (y26, a0, a1, a2, a3, a4, a5, a6, a7, a8, a9, a10, a11, a12, a13, a14, a15, a16, y28, (((List.length y26) : Nat) : Int), 0), c27, y30, rfl, ⟨(), wk_of (Or.inr ⟨⟨Or.inl rfl, Or.inl rfl, Or.inl rfl, Or.inl rfl, Or.inl rfl, trivial⟩, ⟨Or.inl rfl, Or.inl rfl, trivial⟩, rfl, rfl, rfl⟩)⟩, ry30, ?_⟩
                refine rqn_intro 2 ?_
                refine br_both h (fun hb h => ?_) (fun hb h => ?_)
                · refine req_intro rfl ?_
                  exact req_intro rfl h
                · refine req_intro rfl ?_
                  exact req_intro rfl h
              · refine rqn_intro 7 ?_
                refine br_both h (fun hb h => ?_) (fun hb h => ?_)
                · refine req_intro rfl ?_
                  refine req_intro (Nat.beq_refl _) ?_
                  refine ex_both h fun y31 h => ?_
                  refine rqn_intro 5 ?_
                  obtain ⟨y33, ry33, h⟩ := h
                  refine ⟨rfl, rfl, (y26, a0, a1, a2, a3, a4, a5, a6, a7, a8, a9, a10, a11, a12, a13, a14, a15, a16, y31, (((List.length y26) : Nat) : Int), 0), c27, y33, rfl, ⟨(), wk_of (Or.inr ⟨⟨Or.inl rfl, Or.inl rfl, Or.inl rfl, Or.inl rfl, Or.inl rfl, trivial⟩, ⟨Or.inl rfl, Or.inl rfl, trivial⟩, rfl, rfl, rfl⟩)⟩, ry33, ?_⟩
                  refine rqn_intro 2 ?_
                  refine br_both h (fun hb h => ?_) (fun hb h => ?_)
                  · refine req_intro rfl ?_
                    exact req_intro rfl h
                  · refine req_intro rfl ?_
                    exact req_intro rfl h
                · refine rqn_intro 5 ?_
                  obtain ⟨y35, ry35, h⟩ := h
                  refine ⟨rfl, rfl, (y26, a0, a1, a2, a3, a4, a5, a6, a7, a8, a9, a10, a11, a12, a13, a14, a15, a16, false, (((List.length y26) : Nat) : Int), 0), c27, y35, rfl, ⟨(), wk_of (Or.inr ⟨⟨Or.inl rfl, Or.inl rfl, Or.inl rfl, Or.inl rfl, Or.inl rfl, trivial⟩, ⟨Or.inl rfl, Or.inl rfl, trivial⟩, rfl, rfl, rfl⟩)⟩, ry35, ?_⟩
                  refine rqn_intro 2 ?_
                  refine br_both h (fun hb h => ?_) (fun hb h => ?_)
                  · refine req_intro rfl ?_
                    exact req_intro rfl h
                  · refine req_intro rfl ?_
                    exact req_intro rfl h
            · refine rqn_intro 7 ?_
              obtain ⟨y37, ry37, h⟩ := h
              refine ⟨rfl, rfl, (y26, a0, a1, a2, a3, a4, a5, a6, a7, a8, a9, a10, a11, a12, a13, a14, a15, a16, false, (((List.length y26) : Nat) : Int), 0), c27, y37, rfl, ⟨(), wk_of (Or.inr ⟨⟨Or.inl rfl, Or.inl rfl, Or.inl rfl, Or.inl rfl, Or.inl rfl, trivial⟩, ⟨Or.inl rfl, Or.inl rfl, trivial⟩, rfl, rfl, rfl⟩)⟩, ry37, ?_⟩
              refine rqn_intro 2 ?_
              refine br_both h (fun hb h => ?_) (fun hb h => ?_)
              · refine req_intro rfl ?_
                exact req_intro rfl h
              · refine req_intro rfl ?_
                exact req_intro rfl h
        · refine rqn_intro 6 ?_
          refine br_both h (fun hb h => ?_) (fun hb h => ?_)
          · refine rqn_intro 8 ?_
            refine ex_both h fun y38 h => ?_
            intro c39 hc39
            refine rqn_intro 10 ?_
            obtain ⟨y41, ry41, h⟩ := h
            refine ⟨rfl, rfl, (y38, a0, a1, a2, a3, a4, a5, a6, a7, a8, a9, a10, a11, a12, a13, a14, a15, a16, false, (((List.length y38) : Nat) : Int), 0), c39, y41, rfl, ⟨(), wk_of (Or.inr ⟨⟨Or.inl rfl, Or.inl rfl, Or.inl rfl, Or.inl rfl, Or.inl rfl, trivial⟩, ⟨Or.inl rfl, Or.inl rfl, trivial⟩, rfl, rfl, rfl⟩)⟩, ry41, ?_⟩
            refine rqn_intro 2 ?_
            refine br_both h (fun hb h => ?_) (fun hb h => ?_)
            · refine req_intro rfl ?_
              exact req_intro rfl h
            · refine req_intro rfl ?_
              exact req_intro rfl h
          · refine rqn_intro 2 ?_
            refine ex_both h fun y42 h => ?_
            intro c43 hc43
            refine rqn_intro 10 ?_
            obtain ⟨y45, ry45, h⟩ := h
            refine ⟨rfl, rfl, (y42, a0, a1, a2, a3, a4, a5, a6, a7, a8, a9, a10, a11, a12, a13, a14, a15, a16, false, (((List.length y42) : Nat) : Int), 0), c43, y45, rfl, ⟨(), wk_of (Or.inr ⟨⟨Or.inl rfl, Or.inl rfl, Or.inl rfl, Or.inl rfl, Or.inl rfl, trivial⟩, ⟨Or.inl rfl, Or.inl rfl, trivial⟩, rfl, rfl, rfl⟩)⟩, ry45, ?_⟩
            refine rqn_intro 2 ?_
            refine br_both h (fun hb h => ?_) (fun hb h => ?_)
            · refine req_intro rfl ?_
              exact req_intro rfl h
            · refine req_intro rfl ?_
              exact req_intro rfl h
      · refine rqn_intro 8 ?_
        refine br_both h (fun hb h => ?_) (fun hb h => ?_)
        · refine rqn_intro 8 ?_
          refine ex_both h fun y46 h => ?_
          intro c47 hc47
          refine rqn_intro 10 ?_
          obtain ⟨y49, ry49, h⟩ := h
          refine ⟨rfl, rfl, (y46, a0, a1, a2, a3, a4, a5, a6, a7, a8, a9, a10, a11, a12, a13, a14, a15, a16, false, (((List.length y46) : Nat) : Int), 0), c47, y49, rfl, ⟨(), wk_of (Or.inr ⟨⟨Or.inl rfl, Or.inl rfl, Or.inl rfl, Or.inl rfl, Or.inl rfl, trivial⟩, ⟨Or.inl rfl, Or.inl rfl, trivial⟩, rfl, rfl, rfl⟩)⟩, ry49, ?_⟩
          refine rqn_intro 2 ?_
          refine br_both h (fun hb h => ?_) (fun hb h => ?_)
          · refine req_intro rfl ?_
            exact req_intro rfl h
          · refine req_intro rfl ?_
            exact req_intro rfl h
        · refine rqn_intro 2 ?_
          refine ex_both h fun y50 h => ?_
          intro c51 hc51
          refine rqn_intro 10 ?_
          obtain ⟨y53, ry53, h⟩ := h
          refine ⟨rfl, rfl, (y50, a0, a1, a2, a3, a4, a5, a6, a7, a8, a9, a10, a11, a12, a13, a14, a15, a16, false, (((List.length y50) : Nat) : Int), 0), c51, y53, rfl, ⟨(), wk_of (Or.inr ⟨⟨Or.inl rfl, Or.inl rfl, Or.inl rfl, Or.inl rfl, Or.inl rfl, trivial⟩, ⟨Or.inl rfl, Or.inl rfl, trivial⟩, rfl, rfl, rfl⟩)⟩, ry53, ?_⟩
          refine rqn_intro 2 ?_
          refine br_both h (fun hb h => ?_) (fun hb h => ?_)
          · refine req_intro rfl ?_
            exact req_intro rfl h
          · refine req_intro rfl ?_
            exact req_intro rfl h
    · refine rqn_intro 6 ?_
      refine br_both h (fun hb h => ?_) (fun hb h => ?_)
      · refine rqn_intro 6 ?_
        refine br_both h (fun hb h => ?_) (fun hb h => ?_)
        · refine rqn_intro 9 ?_
          refine br_both h (fun hb h => ?_) (fun hb h => ?_)
          · refine rqn_intro 10 ?_
            refine br_both h (fun hb h => ?_) (fun hb h => ?_)
            · refine rqn_intro 2 ?_
              refine br_both h (fun hb h => ?_) (fun hb h => ?_)
              · refine rqn_intro 6 ?_
                refine br_both h (fun hb h => ?_) (fun hb h => ?_)
                · refine rqn_intro 8 ?_
                  refine ex_both h fun y54 h => ?_
                  intro c55 hc55
                  refine rqn_intro 3 ?_
                  refine br_both h (fun hb h => ?_) (fun hb h => ?_)
                  · refine rqn_intro 5 ?_
                    refine br_both h (fun hb h => ?_) (fun hb h => ?_)
                    · refine rqn_intro 4 ?_
                      refine req_intro (Nat.beq_refl _) ?_
                      refine ex_both h fun y56 h => ?_
                      refine rqn_intro 5 ?_
                      obtain ⟨y58, ry58, h⟩ := h
                      refine ⟨rfl, rfl, (y54, a0, a1, a2, a3, a4, a5, a6, a7, a8, a9, a10, a11, a12, a13, a14, a15, a16, y56, (((List.length y54) : Nat) : Int), 0), c55, y58, rfl, ⟨(), wk_of (Or.inr ⟨⟨Or.inl rfl, Or.inl rfl, Or.inl rfl, Or.inl rfl, Or.inl rfl, trivial⟩, ⟨Or.inl rfl, Or.inl rfl, trivial⟩, rfl, rfl, rfl⟩)⟩, ry58, ?_⟩
                      refine rqn_intro 2 ?_
                      refine br_both h (fun hb h => ?_) (fun hb h => ?_)
                      · refine req_intro rfl ?_
                        exact req_intro rfl h
                      · refine req_intro rfl ?_
                        exact req_intro rfl h
                    · refine rqn_intro 7 ?_
                      refine br_both h (fun hb h => ?_) (fun hb h => ?_)
                      · refine req_intro rfl ?_
                        refine req_intro (Nat.beq_refl _) ?_
                        refine ex_both h fun y59 h => ?_
                        refine rqn_intro 5 ?_
                        obtain ⟨y61, ry61, h⟩ := h
                        refine ⟨rfl, rfl, (y54, a0, a1, a2, a3, a4, a5, a6, a7, a8, a9, a10, a11, a12, a13, a14, a15, a16, y59, (((List.length y54) : Nat) : Int), 0), c55, y61, rfl, ⟨(), wk_of (Or.inr ⟨⟨Or.inl rfl, Or.inl rfl, Or.inl rfl, Or.inl rfl, Or.inl rfl, trivial⟩, ⟨Or.inl rfl, Or.inl rfl, trivial⟩, rfl, rfl, rfl⟩)⟩, ry61, ?_⟩
                        refine rqn_intro 2 ?_
                        refine br_both h (fun hb h => ?_) (fun hb h => ?_)
                        · refine req_intro rfl ?_
                          exact req_intro rfl h
                        · refine req_intro rfl ?_
                          exact req_intro rfl h
                      · refine rqn_intro 5 ?_
                        obtain ⟨y63, ry63, h⟩ := h
                        refine ⟨rfl, rfl, (y54, a0, a1, a2, a3, a4, a5, a6, a7, a8, a9, a10, a11, a12, a13, a14, a15, a16, false, (((List.length y54) : Nat) : Int), 0), c55, y63, rfl, ⟨(), wk_of (Or.inr ⟨⟨Or.inl rfl, Or.inl rfl, Or.inl rfl, Or.inl rfl, Or.inl rfl, trivial⟩, ⟨Or.inl rfl, Or.inl rfl, trivial⟩, rfl, rfl, rfl⟩)⟩, ry63, ?_⟩
                        refine rqn_intro 2 ?_
                        refine br_both h (fun hb h => ?_) (fun hb h => ?_)
                        · refine req_intro rfl ?_
                          exact req_intro rfl h
                        · refine req_intro rfl ?_
                          exact req_intro rfl h
                  · refine rqn_intro 7 ?_
                    obtain ⟨y65, ry65, h⟩ := h
                    refine ⟨rfl, rfl, (y54, a0, a1, a2, a3, a4, a5, a6, a7, a8, a9, a10, a11, a12, a13, a14, a15, a16, false, (((List.length y54) : Nat) : Int), 0), c55, y65, rfl, ⟨(), wk_of (Or.inr ⟨⟨Or.inl rfl, Or.inl rfl, Or.inl rfl, Or.inl rfl, Or.inl rfl, trivial⟩, ⟨Or.inl rfl, Or.inl rfl, trivial⟩, rfl, rfl, rfl⟩)⟩, ry65, ?_⟩
                    refine rqn_intro 2 ?_
                    refine br_both h (fun hb h => ?_) (fun hb h => ?_)
                    · refine req_intro rfl ?_
                      exact req_intro rfl h
                    · refine req_intro rfl ?_
                      exact req_intro rfl h
                · refine rqn_intro 4 ?_
                  refine ex_both h fun y66 h => ?_
                  intro c67 hc67
                  refine rqn_intro 10 ?_
                  obtain ⟨y69, ry69, h⟩ := h
                  refine ⟨rfl, rfl, (y66, a0, a1, a2, a3, a4, a5, a6, a7, a8, a9, a10, a11, a12, a13, a14, a15, a16, false, (((List.length y66) : Nat) : Int), 0), c67, y69, rfl, ⟨(), wk_of (Or.inr ⟨⟨Or.inl rfl, Or.inl rfl, Or.inl rfl, Or.inl rfl, Or.inl rfl, trivial⟩, ⟨Or.inl rfl, Or.inl rfl, trivial⟩, rfl, rfl, rfl⟩)⟩, ry69, ?_⟩
                  refine rqn_intro 2 ?_
                  refine br_both h (fun hb h => ?_) (fun hb h => ?_)
                  · refine req_intro rfl ?_
                    exact req_intro rfl h
                  · refine req_intro rfl ?_
                    exact req_intro rfl h
              · refine rqn_intro 6 ?_
                refine ex_both h fun y70 h => ?_
                intro c71 hc71
                refine rqn_intro 10 ?_
                obtain ⟨y73, ry73, h⟩ := h
                refine ⟨rfl, rfl, (y70, a0, a1, a2, a3, a4, a5, a6, a7, a8, a9, a10, a11, a12, a13, a14, a15, a16, false, (((List.length y70) : Nat) : Int), 0), c71, y73, rfl, ⟨(), wk_of (Or.inr ⟨⟨Or.inl rfl, Or.inl rfl, Or.inl rfl, Or.inl rfl, Or.inl rfl, trivial⟩, ⟨Or.inl rfl, Or.inl rfl, trivial⟩, rfl, rfl, rfl⟩)⟩, ry73, ?_⟩
                refine rqn_intro 2 ?_
                refine br_both h (fun hb h => ?_) (fun hb h => ?_)
                · refine req_intro rfl ?_
                  exact req_intro rfl h
                · refine req_intro rfl ?_
                  exact req_intro rfl h
            · refine rqn_intro 2 ?_
              refine ex_both h fun y74 h => ?_
              intro c75 hc75
              refine rqn_intro 3 ?_
              refine br_both h (fun hb h => ?_) (fun hb h => ?_)
              · refine rqn_intro 5 ?_
                refine br_both h (fun hb h => ?_) (fun hb h => ?_)
                · refine rqn_intro 4 ?_
                  refine req_intro (Nat.beq_refl _) ?_
                  refine ex_both h fun y76 h => ?_
                  refine rqn_intro 5 ?_
                  obtain ⟨y78, ry78, h⟩ := h
                  refine ⟨rfl, rfl, (y74, a0, a1, a2, a3, a4, a5, a6, a7, a8, a9, a10, a11, a12, a13, a14, a15, a16, y76, (((List.length y74) : Nat) : Int), 0), c75, y78, rfl, ⟨(), wk_of (Or.inr ⟨⟨Or.inl rfl, Or.inl rfl, Or.inl rfl, Or.inl rfl, Or.inl rfl, trivial⟩, ⟨Or.inl rfl, Or.inl rfl, trivial⟩, rfl, rfl, rfl⟩)⟩, ry78, ?_⟩
                  refine rqn_intro 2 ?_
                  refine br_both h (fun hb h => ?_) (fun hb h => ?_)
                  · refine req_intro rfl ?_
                    exact req_intro rfl h
                  · refine req_intro rfl ?_
                    exact req_intro rfl h
                · refine rqn_intro 7 ?_
                  refine br_both h (fun hb h => ?_) (fun hb h => ?_)
                  · refine req_intro rfl ?_
                    refine req_intro (Nat.beq_refl _) ?_
                    refine ex_both h fun y79 h => ?_
                    refine rqn_intro 5 ?_
                    obtain ⟨y81, ry81, h⟩ := h
                    refine ⟨rfl, rfl, (y74, a0, a1, a2, a3, a4, a5, a6, a7, a8, a9, a10, a11, a12, a13, a14, a15, a16, y79, (((List.length y74) : Nat) : Int), 0), c75, y81, rfl, ⟨(), wk_of (Or.inr ⟨⟨Or.inl rfl, Or.inl rfl, Or.inl rfl, Or.inl rfl, Or.inl rfl, trivial⟩, ⟨Or.inl rfl, Or.inl rfl, trivial⟩, rfl, rfl, rfl⟩)⟩, ry81, ?_⟩
                    refine rqn_intro 2 ?_
                    refine br_both h (fun hb h => ?_) (fun hb h => ?_)
                    · refine req_intro rfl ?_
                      exact req_intro rfl h
                    · refine req_intro rfl ?_
                      exact req_intro rfl h
                  · refine rqn_intro 5 ?_
                    obtain ⟨y83, ry83, h⟩ := h
                    refine ⟨rfl, rfl, (y74, a0, a1, a2, a3, a4, a5, a6, a7, a8, a9, a10, a11, a12, a13, a14, a15, a16, false, (((List.length y74) : Nat) : Int), 0), c75, y83, rfl, ⟨(), wk_of (Or.inr ⟨⟨Or.inl rfl, Or.inl rfl, Or.inl rfl, Or.inl rfl, Or.inl rfl, trivial⟩, ⟨Or.inl rfl, Or.inl rfl, trivial⟩, rfl, rfl, rfl⟩)⟩, ry83, ?_⟩
                    refine rqn_intro 2 ?_
                    refine br_both h (fun hb h => ?_) (fun hb h => ?_)
                    · refine req_intro rfl ?_
                      exact req_intro rfl h
                    · refine req_intro rfl ?_
                      exact req_intro rfl h
              · refine rqn_intro 7 ?_
                obtain ⟨y85, ry85, h⟩ := h
                refine ⟨rfl, rfl, (y74, a0, a1, a2, a3, a4, a5, a6, a7, a8, a9, a10, a11, a12, a13, a14, a15, a16, false, (((List.length y74) : Nat) : Int), 0), c75, y85, rfl, ⟨(), wk_of (Or.inr ⟨⟨Or.inl rfl, Or.inl rfl, Or.inl rfl, Or.inl rfl, Or.inl rfl, trivial⟩, ⟨Or.inl rfl, Or.inl rfl, trivial⟩, rfl, rfl, rfl⟩)⟩, ry85, ?_⟩
                refine rqn_intro 2 ?_
                refine br_both h (fun hb h => ?_) (fun hb h => ?_)
                · refine req_intro rfl ?_
                  exact req_intro rfl h
                · refine req_intro rfl ?_
                  exact req_intro rfl h
          · refine rqn_intro 6 ?_
            refine br_both h (fun hb h => ?_) (fun hb h => ?_)
            · refine rqn_intro 8 ?_
              refine ex_both h fun y86 h => ?_
              intro c87 hc87
              refine rqn_intro 10 ?_
              obtain ⟨y89, ry89, h⟩ := h
              refine ⟨rfl, rfl, (y86, a0, a1, a2, a3, a4, a5, a6, a7, a8, a9, a10, a11, a12, a13, a14, a15, a16, false, (((List.length y86) : Nat) : Int), 0), c87, y89, rfl, ⟨(), wk_of (Or.inr ⟨⟨Or.inl rfl, Or.inl rfl, Or.inl rfl, Or.inl rfl, Or.inl rfl, trivial⟩, ⟨Or.inl rfl, Or.inl rfl, trivial⟩, rfl, rfl, rfl⟩)⟩, ry89, ?_⟩
              refine rqn_intro 2 ?_
              refine br_both h (fun hb h => ?_) (fun hb h => ?_)
              · refine req_intro rfl ?_
                exact req_intro rfl h
              · refine req_intro rfl ?_
                exact req_intro rfl h
            · refine rqn_intro 2 ?_
              refine ex_both h fun y90 h => ?_
              intro c91 hc91
              refine rqn_intro 10 ?_
              obtain ⟨y93, ry93, h⟩ := h
              refine ⟨rfl, rfl, (y90, a0, a1, a2, a3, a4, a5, a6, a7, a8, a9, a10, a11, a12, a13, a14, a15, a16, false, (((List.length y90) : Nat) : Int), 0), c91, y93, rfl, ⟨(), wk_of (Or.inr ⟨⟨Or.inl rfl, Or.inl rfl, Or.inl rfl, Or.inl rfl, Or.inl rfl, trivial⟩, ⟨Or.inl rfl, Or.inl rfl, trivial⟩, rfl, rfl, rfl⟩)⟩, ry93, ?_⟩
              refine rqn_intro 2 ?_
              refine br_both h (fun hb h => ?_) (fun hb h => ?_)
              · refine req_intro rfl ?_
                exact req_intro rfl h
              · refine req_intro rfl ?_
                exact req_intro rfl h
        · refine rqn_intro 8 ?_
          refine br_both h (fun hb h => ?_) (fun hb h => ?_)
          · refine rqn_intro 8 ?_
            refine ex_both h fun y94 h => ?_
            intro c95 hc95
            refine rqn_intro 10 ?_
            obtain ⟨y97, ry97, h⟩ := h
            refine ⟨rfl, rfl, (y94, a0, a1, a2, a3, a4, a5, a6, a7, a8, a9, a10, a11, a12, a13, a14, a15, a16, false, (((List.length y94) : Nat) : Int), 0), c95, y97, rfl, ⟨(), wk_of (Or.inr ⟨⟨Or.inl rfl, Or.inl rfl, Or.inl rfl, Or.inl rfl, Or.inl rfl, trivial⟩, ⟨Or.inl rfl, Or.inl rfl, trivial⟩, rfl, rfl, rfl⟩)⟩, ry97, ?_⟩
            refine rqn_intro 2 ?_
            refine br_both h (fun hb h => ?_) (fun hb h => ?_)
            · refine req_intro rfl ?_
              exact req_intro rfl h
            · refine req_intro rfl ?_
              exact req_intro rfl h
          · refine rqn_intro 2 ?_
            refine ex_both h fun y98 h => ?_
            intro c99 hc99
            refine rqn_intro 10 ?_
            obtain ⟨y101, ry101, h⟩ := h
            refine ⟨rfl, rfl, (y98, a0, a1, a2, a3, a4, a5, a6, a7, a8, a9, a10, a11, a12, a13, a14, a15, a16, false, (((List.length y98) : Nat) : Int), 0), c99, y101, rfl, ⟨(), wk_of (Or.inr ⟨⟨Or.inl rfl, Or.inl rfl, Or.inl rfl, Or.inl rfl, Or.inl rfl, trivial⟩, ⟨Or.inl rfl, Or.inl rfl, trivial⟩, rfl, rfl, rfl⟩)⟩, ry101, ?_⟩
            refine rqn_intro 2 ?_
            refine br_both h (fun hb h => ?_) (fun hb h => ?_)
            · refine req_intro rfl ?_
              exact req_intro rfl h
            · refine req_intro rfl ?_
              exact req_intro rfl h
      · refine rqn_intro 10 ?_
        refine br_both h (fun hb h => ?_) (fun hb h => ?_)
        · refine rqn_intro 8 ?_
          refine ex_both h fun y102 h => ?_
          intro c103 hc103
          refine rqn_intro 10 ?_
          obtain ⟨y105, ry105, h⟩ := h
          refine ⟨rfl, rfl, (y102, a0, a1, a2, a3, a4, a5, a6, a7, a8, a9, a10, a11, a12, a13, a14, a15, a16, false, (((List.length y102) : Nat) : Int), 0), c103, y105, rfl, ⟨(), wk_of (Or.inr ⟨⟨Or.inl rfl, Or.inl rfl, Or.inl rfl, Or.inl rfl, Or.inl rfl, trivial⟩, ⟨Or.inl rfl, Or.inl rfl, trivial⟩, rfl, rfl, rfl⟩)⟩, ry105, ?_⟩
          refine rqn_intro 2 ?_
          refine br_both h (fun hb h => ?_) (fun hb h => ?_)
          · refine req_intro rfl ?_
            exact req_intro rfl h
          · refine req_intro rfl ?_
            exact req_intro rfl h
        · refine rqn_intro 2 ?_
          refine ex_both h fun y106 h => ?_
          intro c107 hc107
          refine rqn_intro 10 ?_
          obtain ⟨y109, ry109, h⟩ := h
          refine ⟨rfl, rfl, (y106, a0, a1, a2, a3, a4, a5, a6, a7, a8, a9, a10, a11, a12, a13, a14, a15, a16, false, (((List.length y106) : Nat) : Int), 0), c107, y109, rfl, ⟨(), wk_of (Or.inr ⟨⟨Or.inl rfl, Or.inl rfl, Or.inl rfl, Or.inl rfl, Or.inl rfl, trivial⟩, ⟨Or.inl rfl, Or.inl rfl, trivial⟩, rfl, rfl, rfl⟩)⟩, ry109, ?_⟩
          refine rqn_intro 2 ?_
          refine br_both h (fun hb h => ?_) (fun hb h => ?_)
          · refine req_intro rfl ?_
            exact req_intro rfl h
          · refine req_intro rfl ?_
            exact req_intro rfl h
  · refine rqn_intro 12 ?_
    refine br_both h (fun hb h => ?_) (fun hb h => ?_)
    · refine rqn_intro 8 ?_
      refine ex_both h fun y110 h => ?_
      intro c111 hc111
      refine rqn_intro 10 ?_
      obtain ⟨y113, ry113, h⟩ := h
      refine ⟨rfl, rfl, (y110, a0, a1, a2, a3, a4, a5, a6, a7, a8, a9, a10, a11, a12, a13, a14, a15, a16, false, (((List.length y110) : Nat) : Int), 0), c111, y113, rfl, ⟨(), wk_of (Or.inr ⟨⟨Or.inl rfl, Or.inl rfl, Or.inl rfl, Or.inl rfl, Or.inl rfl, trivial⟩, ⟨Or.inl rfl, Or.inl rfl, trivial⟩, rfl, rfl, rfl⟩)⟩, ry113, ?_⟩
      refine rqn_intro 2 ?_
      refine br_both h (fun hb h => ?_) (fun hb h => ?_)
      · refine req_intro rfl ?_
        exact req_intro rfl h
      · refine req_intro rfl ?_
        exact req_intro rfl h
    · refine rqn_intro 2 ?_
      refine ex_both h fun y114 h => ?_
      intro c115 hc115
      refine rqn_intro 10 ?_
      obtain ⟨y117, ry117, h⟩ := h
      refine ⟨rfl, rfl, (y114, a0, a1, a2, a3, a4, a5, a6, a7, a8, a9, a10, a11, a12, a13, a14, a15, a16, false, (((List.length y114) : Nat) : Int), 0), c115, y117, rfl, ⟨(), wk_of (Or.inr ⟨⟨Or.inl rfl, Or.inl rfl, Or.inl rfl, Or.inl rfl, Or.inl rfl, trivial⟩, ⟨Or.inl rfl, Or.inl rfl, trivial⟩, rfl, rfl, rfl⟩)⟩, ry117, ?_⟩
      refine rqn_intro 2 ?_
      refine br_both h (fun hb h => ?_) (fun hb h => ?_)
      · refine req_intro rfl ?_
        exact req_intro rfl h
      · refine req_intro rfl ?_
        exact req_intro rfl h
theorem table_CheckRow_ok : FxOk Tryd.prog gsT 27 (.one (.agg (.cons (.int .u32) (.cons .bool (.cons (.int .u64) (.cons (.int .u64) (.cons (.int .u64) (.cons (.int .u64) (.cons (.int .u64) (.cons (.int .i64) (.cons (.int .i64) (.cons (.int .i64) (.cons (.int .i64) (.cons .bool (.cons (.int .i64) (.cons (.int .u64) (.cons (.int .i64) (.cons (.int .i64) (.one (.sl (.int .i64))))))))))))))))))))) (.int .i64) fun x y => table_CheckRow_R (x.1) (x.2.1) (x.2.2.1) (x.2.2.2.1) (x.2.2.2.2.1) (x.2.2.2.2.2.1) (x.2.2.2.2.2.2.1) (x.2.2.2.2.2.2.2.1) (x.2.2.2.2.2.2.2.2.1) (x.2.2.2.2.2.2.2.2.2.1) (x.2.2.2.2.2.2.2.2.2.2.1) (x.2.2.2.2.2.2.2.2.2.2.2.1) (x.2.2.2.2.2.2.2.2.2.2.2.2.1) (x.2.2.2.2.2.2.2.2.2.2.2.2.2.1) (x.2.2.2.2.2.2.2.2.2.2.2.2.2.2.1) (x.2.2.2.2.2.2.2.2.2.2.2.2.2.2.2.1) (x.2.2.2.2.2.2.2.2.2.2.2.2.2.2.2.2) y := fx_of (c := q27_cx) (ty_ok rfl) (eq_ok rfl) q27_fns follows_ok (ok := okT) (lp := q27_lp) (n := 60) q27_lpok (enters Tryd.func27 (by kernel_rfl) rfl) (fun y => ⟨_, rfl⟩) fun x y h => q27_run _ _ _ _ _ _ _ _ _ _ _ _ _ _ _ _ _ y h
noncomputable def q31_cx : Cx := ⟨tyT, [(18, .fx (.cons (.agg (.cons (.int .u64) (.cons (.int .u64) (.cons (.int .u64) (.cons (.int .u64) (.one (.int .u64))))))) (.one (.int .i64))) (.tup (.cons (.int .i64) (.one .bool))) fun x y => next_Last_R (x.1.1) (x.1.2.1) (x.1.2.2.1) (x.1.2.2.2.1) (x.1.2.2.2.2) (x.2) y),
  (31, .body Tryd.f31),
  (33, .fx (.one (.agg (.cons (.int .u32) (.cons .bool (.cons (.int .u64) (.cons (.int .u64) (.cons (.int .u64) (.cons (.int .u64) (.cons (.int .u64) (.cons (.int .i64) (.cons (.int .i64) (.cons (.int .i64) (.one (.int .i64)))))))))))))) (.int .i64) fun x y => job_Check_R (x.1) (x.2.1) (x.2.2.1) (x.2.2.2.1) (x.2.2.2.2.1) (x.2.2.2.2.2.1) (x.2.2.2.2.2.2.1) (x.2.2.2.2.2.2.2.1) (x.2.2.2.2.2.2.2.2.1) (x.2.2.2.2.2.2.2.2.2.1) (x.2.2.2.2.2.2.2.2.2.2) y),
  (69, .body Tryd.f69),
  (89, .body Tryd.f89),
  (90, .body Tryd.f90),
  (115, .body Tryd.f115),
  (117, .body Tryd.f117),
  (119, .body Tryd.f119)], gsT, eqT⟩
theorem q31_fns : FnsOk Tryd.prog q31_cx := Fns_assoc ⟨next_Last_ok, body_ent Tryd.func31 (by kernel_rfl) (by kernel_rfl), job_Check_ok, body_ent Tryd.func69 (by kernel_rfl) (by kernel_rfl), body_ent Tryd.func89 (by kernel_rfl) (by kernel_rfl), body_ent Tryd.func90 (by kernel_rfl) (by kernel_rfl), body_ent Tryd.func115 (by kernel_rfl) (by kernel_rfl), body_ent Tryd.func117 (by kernel_rfl) (by kernel_rfl), body_ent Tryd.func119 (by kernel_rfl) (by kernel_rfl), trivial⟩
def job_Latest_R (a0 : Int) (a1 : Bool) (a2 : Int) (a3 : Int) (a4 : Int) (a5 : Int) (a6 : Int) (a7 : Int) (a8 : Int) (a9 : Int) (a10 : Int) (a11 : Int) (y : Int × Bool) : Prop :=
  (∃ y1 : Int, (job_Check_R a0 a1 a2 a3 a4 a5 a6 a7 a8 a9 a10 y1) ∧ (br (y1 != 0) ((0, false) = y) (br a1 (br (!(decide (a7 ≤ a11))) ((0, false) = y) ((a7, true) = y)) (∃ y2 : Int × Bool, (next_Last_R a2 a3 a4 a5 a6 a11 y2) ∧ (y2 = y)))))
theorem q31_tree (a0 : Int) (a1 : Bool) (a2 : Int) (a3 : Int) (a4 : Int) (a5 : Int) (a6 : Int) (a7 : Int) (a8 : Int) (a9 : Int) (a10 : Int) (a11 : Int) (y : Int × Bool) : acall q31_cx okT lpT 60 (.fn 31 [] []) [(V.agg [(V.int .u32 a0), (V.bool a1), (V.int .u64 a2), (V.int .u64 a3), (V.int .u64 a4), (V.int .u64 a5), (V.int .u64 a6), (V.int .i64 a7), (V.int .i64 a8), (V.int .i64 a9), (V.int .i64 a10)]), (V.int .i64 a11)] [] (leafK (.tup (.cons (.int .i64) (.one .bool))) y) =
    (rqn 6 (∃ y1 : Int, (job_Check_R a0 a1 a2 a3 a4 a5 a6 a7 a8 a9 a10 y1) ∧ (req true (br (y1 != 0) (rqn 10 (req true ((0, false) = y))) (rqn 2 (br a1 (rqn 25 (br (!(decide (a7 ≤ a11))) (rqn 10 (req true ((0, false) = y))) (rqn 11 (req true ((a7, true) = y))))) (rqn 19 (∃ y2 : Int × Bool, (next_Last_R a2 a3 a4 a5 a6 a11 y2) ∧ (rqn 8 (req true (y2 = y))))))))))) := by kernel_rfl
theorem q31_run (a0 : Int) (a1 : Bool) (a2 : Int) (a3 : Int) (a4 : Int) (a5 : Int) (a6 : Int) (a7 : Int) (a8 : Int) (a9 : Int) (a10 : Int) (a11 : Int) (y : Int × Bool) (h : job_Latest_R a0 a1 a2 a3 a4 a5 a6 a7 a8 a9 a10 a11 y) : acall q31_cx okT lpT 60 (.fn 31 [] []) [(V.agg [(V.int .u32 a0), (V.bool a1), (V.int .u64 a2), (V.int .u64 a3), (V.int .u64 a4), (V.int .u64 a5), (V.int .u64 a6), (V.int .i64 a7), (V.int .i64 a8), (V.int .i64 a9), (V.int .i64 a10)]), (V.int .i64 a11)] [] (leafK (.tup (.cons (.int .i64) (.one .bool))) y) := by
  refine cast (q31_tree a0 a1 a2 a3 a4 a5 a6 a7 a8 a9 a10 a11 y).symm ?_
  unfold job_Latest_R at h
  refine rqn_intro 6 ?_
  refine ex_both h fun y1 h => ?_
  refine req_intro rfl ?_
  refine br_both h (fun hb h => ?_) (fun hb h => ?_)
  · refine rqn_intro 10 ?_
    exact req_intro rfl h
  · refine rqn_intro 2 ?_
    refine br_both h (fun hb h => ?_) (fun hb h => ?_)
    · refine rqn_intro 25 ?_
      refine br_both h (fun hb h => ?_) (fun hb h => ?_)
      · refine rqn_intro 10 ?_
        exact req_intro rfl h
      · refine rqn_intro 11 ?_
        exact req_intro rfl h
    · refine rqn_intro 19 ?_
      refine ex_both h fun y2 h => ?_
      refine rqn_intro 8 ?_
      exact req_intro rfl h
theorem job_Latest_ok : FxOk Tryd.prog gsT 31 (.cons (.agg (.cons (.int .u32) (.cons .bool (.cons (.int .u64) (.cons (.int .u64) (.cons (.int .u64) (.cons (.int .u64) (.cons (.int .u64) (.cons (.int .i64) (.cons (.int .i64) (.cons (.int .i64) (.one (.int .i64))))))))))))) (.one (.int .i64))) (.tup (.cons (.int .i64) (.one .bool))) fun x y => job_Latest_R (x.1.1) (x.1.2.1) (x.1.2.2.1) (x.1.2.2.2.1) (x.1.2.2.2.2.1) (x.1.2.2.2.2.2.1) (x.1.2.2.2.2.2.2.1) (x.1.2.2.2.2.2.2.2.1) (x.1.2.2.2.2.2.2.2.2.1) (x.1.2.2.2.2.2.2.2.2.2.1) (x.1.2.2.2.2.2.2.2.2.2.2) (x.2) y := fx_of (c := q31_cx) (ty_ok rfl) (eq_ok rfl) q31_fns follows_ok (ok := okT) (lp := lpT) (n := 60) lp_ok (enters Tryd.func31 (by kernel_rfl) rfl) (fun y => ⟨_, rfl⟩) fun x y h => q31_run _ _ _ _ _ _ _ _ _ _ _ _ y h
noncomputable def q34_cx : Cx := ⟨tyT, [(17, .fx (.cons (.agg (.cons (.int .u64) (.cons (.int .u64) (.cons (.int .u64) (.cons (.int .u64) (.one (.int .u64))))))) (.one (.int .i64))) (.tup (.cons (.int .i64) (.one .bool))) fun x y => next_Next_R (x.1.1) (x.1.2.1) (x.1.2.2.1) (x.1.2.2.2.1) (x.1.2.2.2.2) (x.2) y),
  (33, .fx (.one (.agg (.cons (.int .u32) (.cons .bool (.cons (.int .u64) (.cons (.int .u64) (.cons (.int .u64) (.cons (.int .u64) (.cons (.int .u64) (.cons (.int .i64) (.cons (.int .i64) (.cons (.int .i64) (.one (.int .i64)))))))))))))) (.int .i64) fun x y => job_Check_R (x.1) (x.2.1) (x.2.2.1) (x.2.2.2.1) (x.2.2.2.2.1) (x.2.2.2.2.2.1) (x.2.2.2.2.2.2.1) (x.2.2.2.2.2.2.2.1) (x.2.2.2.2.2.2.2.2.1) (x.2.2.2.2.2.2.2.2.2.1) (x.2.2.2.2.2.2.2.2.2.2) y),
  (34, .body Tryd.f34),
  (69, .body Tryd.f69),
  (89, .body Tryd.f89),
  (90, .body Tryd.f90),
  (115, .body Tryd.f115),
  (116, .body Tryd.f116),
  (118, .body Tryd.f118)], gsT, eqT⟩
theorem q34_fns : FnsOk Tryd.prog q34_cx := Fns_assoc ⟨next_Next_ok, job_Check_ok, body_ent Tryd.func34 (by kernel_rfl) (by kernel_rfl), body_ent Tryd.func69 (by kernel_rfl) (by kernel_rfl), body_ent Tryd.func89 (by kernel_rfl) (by kernel_rfl), body_ent Tryd.func90 (by kernel_rfl) (by kernel_rfl), body_ent Tryd.func115 (by kernel_rfl) (by kernel_rfl), body_ent Tryd.func116 (by kernel_rfl) (by kernel_rfl), body_ent Tryd.func118 (by kernel_rfl) (by kernel_rfl), trivial⟩
noncomputable def q34_0_body : Code := subC [1, 0, 1, 1, 1, 1, 1, 1, 0, 0, 0] (bodyOf Tryd.f34)
abbrev job_Times_l0_Z : Type := Int × Int × Int
abbrev job_Times_l0_Y : Type := Unit
abbrev q34_0_C : Type := Unit
abbrev q34_0_Q : Type := Unit
noncomputable def q34_0_st (z3 : job_Times_l0_Z) (z3q : q34_0_Q) (z3c : q34_0_C) : S := ⟨[(2, (vi (z3.2.2))), (4, (V.ptr 1 0)), (9, (V.ptr 2 0)), (11, (V.old (.slice none 0 0))), (12, (vi (z3.1)))], [Blk.dead, (Blk.cells [(vi (z3.1)), (vi (z3.2.1))]), (Blk.cells [(V.old .nilFunc), (V.old .nilFunc)])], []⟩
def q34_0_Kp (K : Ret → S → Prop) (z3q : q34_0_Q) (y4 : job_Times_l0_Y) : Prop := K (.exit 0) ⟨[(11, (V.old (.slice none 0 0)))], [Blk.dead, Blk.dead, Blk.dead], []⟩
def q34_0_K (K : Ret → S → Prop) (z3 : job_Times_l0_Z) (z3q : q34_0_Q) (y4 : job_Times_l0_Y) : Prop := q34_0_Kp K z3q y4
def job_Times_l0 : Nat → job_Times_l0_Z → job_Times_l0_Y → Prop
  | 0, _, _ => False
  | k + 1, (z3x0, z3x1, z3x2), y4_ => (br (decide (0 < z3x2)) False (() = y4_))
def job_Times_l0_L (z : job_Times_l0_Z) (y : job_Times_l0_Y) : Prop := ∃ k, job_Times_l0 k z y
noncomputable def q34_0_lp : Lp := .auto none q34_0_body (loopG 3 q34_0_st (fun z y => ∃ k, job_Times_l0 k z y) q34_0_K)
noncomputable def q34_1_body : Code := subC [1, 0, 1, 1, 1, 1, 1, 1, 0, 0, 0] (bodyOf Tryd.f34)
abbrev job_Times_l1_Z : Type := List Int × Int × Int × Int × Int × Int
abbrev job_Times_l1_Y : Type := List Int
abbrev q34_1_C : Type := Nat
abbrev q34_1_Q : Type := Unit
noncomputable def q34_1_st (z7 : job_Times_l1_Z) (z7q : q34_1_Q) (z7c : q34_1_C) : S := ⟨[(2, (vi (z7.2.2.2.2.1))), (4, (V.ptr 1 0)), (9, (V.ptr 7 0)), (11, (V.row 8 1 (List.length (z7.1)) z7c)), (12, (vi (z7.2.2.2.2.2)))], [Blk.dead, (Blk.cells [(vi (z7.2.1)), (vi (z7.2.2.1))]), Blk.dead, Blk.dead, (Blk.cells [(vi (z7.2.2.2.1))]), Blk.dead, (Blk.cells [(V.fn 115 [] [(V.ptr 4 0)])]), (Blk.cells [(V.fn 116 [] [(V.ptr 6 0), (V.ptr 4 0)]), (V.fn 117 [] [(V.ptr 6 0), (V.ptr 4 0)])]), (Blk.row (.int .i64) (z7.1) 2 z7c)], []⟩
def q34_1_Kp (K : Ret → S → Prop) (z7q : q34_1_Q) (y8 : job_Times_l1_Y) : Prop := (∀ y8c : Nat, K (.exit 0) ⟨[(11, (V.row 8 1 (List.length y8) y8c))], [Blk.dead, Blk.dead, Blk.dead, Blk.dead, Blk.dead, Blk.dead, Blk.dead, Blk.dead, (Blk.row (.int .i64) y8 2 y8c)], []⟩)
def q34_1_K (K : Ret → S → Prop) (z7 : job_Times_l1_Z) (z7q : q34_1_Q) (y8 : job_Times_l1_Y) : Prop := q34_1_Kp K z7q y8
def job_Times_l1 : Nat → job_Times_l1_Z → job_Times_l1_Y → Prop
  | 0, _, _ => False
  | k + 1, (z7x0, z7x1, z7x2, z7x3, z7x4, z7x5), y8_ => (br (decide ((((List.length z7x0) : Nat) : Int) < z7x4)) (br (!(decide (z7x3 > z7x5))) (z7x0 = y8_) (br (decide (z7x3 > z7x2)) (z7x0 = y8_) (req (Nat.ble ((List.length (z7x0 ++ [z7x3])) * 9) 140737488355328) (job_Times_l1 k ((z7x0 ++ [z7x3]), z7x1, z7x2, z7x3, z7x4, z7x3) y8_)))) (z7x0 = y8_))
def job_Times_l1_L (z : job_Times_l1_Z) (y : job_Times_l1_Y) : Prop := ∃ k, job_Times_l1 k z y
noncomputable def q34_1_lp : Lp := .auto none q34_1_body (loopG 8 q34_1_st (fun z y => ∃ k, job_Times_l1 k z y) q34_1_K)
noncomputable def q34_2_body : Code := subC [1, 0, 1, 1, 1, 1, 1, 1, 0, 0, 0] (bodyOf Tryd.f34)
abbrev job_Times_l2_Z : Type := List Int × Int × Int × Int × Int × Int × Int × Int × Int × Int
abbrev job_Times_l2_Y : Type := List Int
abbrev q34_2_C : Type := Nat
abbrev q34_2_Q : Type := Unit
noncomputable def q34_2_st (z12 : job_Times_l2_Z) (z12q : q34_2_Q) (z12c : q34_2_C) : S := ⟨[(2, (vi (z12.2.2.2.2.2.2.2.2.1))), (4, (V.ptr 1 0)), (9, (V.ptr 6 0)), (11, (V.row 7 1 (List.length (z12.1)) z12c)), (12, (vi (z12.2.2.2.2.2.2.2.2.2)))], [Blk.dead, (Blk.cells [(vi (z12.2.1)), (vi (z12.2.2.1))]), Blk.dead, Blk.dead, (Blk.cells [(vu (z12.2.2.2.1)), (vu (z12.2.2.2.2.1)), (vu (z12.2.2.2.2.2.1)), (vu (z12.2.2.2.2.2.2.1)), (vu (z12.2.2.2.2.2.2.2.1))]), Blk.dead, (Blk.cells [(V.fn 118 [] [(V.ptr 4 0)]), (V.fn 119 [] [(V.ptr 4 0)])]), (Blk.row (.int .i64) (z12.1) 2 z12c)], []⟩
def q34_2_Kp (K : Ret → S → Prop) (z12q : q34_2_Q) (y13 : job_Times_l2_Y) : Prop := (∀ y13c : Nat, K (.exit 0) ⟨[(11, (V.row 7 1 (List.length y13) y13c))], [Blk.dead, Blk.dead, Blk.dead, Blk.dead, Blk.dead, Blk.dead, Blk.dead, (Blk.row (.int .i64) y13 2 y13c)], []⟩)
def q34_2_K (K : Ret → S → Prop) (z12 : job_Times_l2_Z) (z12q : q34_2_Q) (y13 : job_Times_l2_Y) : Prop := q34_2_Kp K z12q y13
def job_Times_l2 : Nat → job_Times_l2_Z → job_Times_l2_Y → Prop
  | 0, _, _ => False
  | k + 1, (z12x0, z12x1, z12x2, z12x3, z12x4, z12x5, z12x6, z12x7, z12x8, z12x9), y13_ => (br (decide ((((List.length z12x0) : Nat) : Int) < z12x8)) (∃ y14 : Int × Bool, (next_Next_R z12x3 z12x4 z12x5 z12x6 z12x7 z12x9 y14) ∧ (br (!(y14.2)) (z12x0 = y13_) (br (decide ((y14.1) > z12x2)) (z12x0 = y13_) (req (Nat.ble ((List.length (z12x0 ++ [(y14.1)])) * 9) 140737488355328) (job_Times_l2 k ((z12x0 ++ [(y14.1)]), z12x1, z12x2, z12x3, z12x4, z12x5, z12x6, z12x7, z12x8, (y14.1)) y13_))))) (z12x0 = y13_))
def job_Times_l2_L (z : job_Times_l2_Z) (y : job_Times_l2_Y) : Prop := ∃ k, job_Times_l2 k z y
noncomputable def q34_2_lp : Lp := .auto none q34_2_body (loopG 7 q34_2_st (fun z y => ∃ k, job_Times_l2 k z y) q34_2_K)
noncomputable def q34_lp : Nat → FuncId → Nat → Nat → Lp := lpTab [(34, 9, 3, 1, q34_0_lp), (34, 9, 8, 2, q34_1_lp), (34, 9, 7, 2, q34_2_lp)]
theorem q34_0_round (n : Nat) (z3x0 : Int) (z3x1 : Int) (z3x2 : Int) (K : Ret → S → Prop) (next : S → Prop) : acode q34_cx 34 (acall q34_cx okT q34_lp (n + 1)) (okT 34) (q34_lp (n + 1) 34) none q34_0_body (iterK (wkK 3 K) next) (q34_0_st (z3x0, z3x1, z3x2) () ()) =
    (rqn 4 (br (decide (0 < z3x2)) (rqn 3 False) (wkK 3 K (.exit 0) ⟨[(2, (vi z3x2)), (4, (V.ptr 1 0)), (9, (V.ptr 2 0)), (11, (V.old (.slice none 0 0))), (12, (vi z3x0)), (36, (vb (decide (0 < z3x2))))], [Blk.dead, (Blk.cells [(vi z3x0), (vi z3x1)]), (Blk.cells [(V.old .nilFunc), (V.old .nilFunc)])], []⟩))) := by kernel_rfl
theorem q34_0_step (n k : Nat) (z3x0 : Int) (z3x1 : Int) (z3x2 : Int) (y4_ : job_Times_l0_Y) (K : Ret → S → Prop) (h : job_Times_l0 (k + 1) (z3x0, z3x1, z3x2) y4_) (hK : q34_0_Kp K () y4_) (next : S → Prop) (hnext : ∀ z' s', job_Times_l0 k z' y4_ → q34_0_K K z' () y4_ → (∃ cc', wk 3 s' (q34_0_st z' () cc')) → next s') : acode q34_cx 34 (acall q34_cx okT q34_lp (n + 1)) (okT 34) (q34_lp (n + 1) 34) none q34_0_body (iterK (wkK 3 K) next) (q34_0_st (z3x0, z3x1, z3x2) () ()) := by
  refine cast (q34_0_round n z3x0 z3x1 z3x2 K next).symm ?_
  simp only [job_Times_l0] at h
  refine rqn_intro 4 ?_
  refine br_both h (fun hb h => ?_) (fun hb h => ?_)
  · refine rqn_intro 3 ?_
    exact h.elim
  · cases y4_
    refine ⟨_, ?_, hK⟩
    exact wk_of (Or.inr ⟨⟨Or.inl rfl, trivial⟩, ⟨Or.inl rfl, Or.inr (Or.inl rfl), Or.inr (Or.inl rfl), trivial⟩, rfl, rfl, rfl⟩)
theorem q34_0_ok (n : Nat) : Owed q34_cx okT 34 q34_lp (n + 1) q34_0_lp := loop_owed (fun z y h => h) fun k zz qq cc yy K h hK next hnext => q34_0_step n k zz.1 zz.2.1 zz.2.2 yy K h hK next hnext
theorem q34_1_round (n : Nat) (z7x0 : List Int) (z7x1 : Int) (z7x2 : Int) (z7x3 : Int) (z7x4 : Int) (z7x5 : Int) (z7k0 : Nat) (K : Ret → S → Prop) (next : S → Prop) : acode q34_cx 34 (acall q34_cx okT q34_lp (n + 2)) (okT 34) (q34_lp (n + 2) 34) none q34_1_body (iterK (wkK 8 K) next) (q34_1_st (z7x0, z7x1, z7x2, z7x3, z7x4, z7x5) () z7k0) =
    (rqn 4 (br (decide ((((List.length z7x0) : Nat) : Int) < z7x4)) (rqn 12 (br (!(decide (z7x3 > z7x5))) (rqn 15 (wkK 8 K (.exit 0) ⟨[(2, (vi z7x4)), (4, (V.ptr 1 0)), (9, (V.ptr 7 0)), (11, (V.row 8 1 (List.length z7x0) z7k0)), (12, (vi z7x5)), (36, (vb (decide ((((List.length z7x0) : Nat) : Int) < z7x4)))), (13, (vi 0)), (14, (vb false)), (51, (vb true))], [Blk.dead, (Blk.cells [(vi z7x1), (vi z7x2)]), Blk.dead, Blk.dead, (Blk.cells [(vi z7x3)]), Blk.dead, (Blk.cells [(V.fn 115 [] [(V.ptr 4 0)])]), (Blk.cells [(V.fn 116 [] [(V.ptr 6 0), (V.ptr 4 0)]), (V.fn 117 [] [(V.ptr 6 0), (V.ptr 4 0)])]), (Blk.row (.int .i64) z7x0 2 z7k0)], []⟩)) (rqn 20 (br (decide (z7x3 > z7x2)) (wkK 8 K (.exit 0) ⟨[(2, (vi z7x4)), (4, (V.ptr 1 0)), (9, (V.ptr 7 0)), (11, (V.row 8 1 (List.length z7x0) z7k0)), (12, (vi z7x5)), (36, (vb (decide ((((List.length z7x0) : Nat) : Int) < z7x4)))), (13, (vi z7x3)), (14, (vb true)), (51, (vb (decide (z7x3 > z7x2))))], [Blk.dead, (Blk.cells [(vi z7x1), (vi z7x2)]), Blk.dead, Blk.dead, (Blk.cells [(vi z7x3)]), Blk.dead, (Blk.cells [(V.fn 115 [] [(V.ptr 4 0)])]), (Blk.cells [(V.fn 116 [] [(V.ptr 6 0), (V.ptr 4 0)]), (V.fn 117 [] [(V.ptr 6 0), (V.ptr 4 0)])]), (Blk.row (.int .i64) z7x0 2 z7k0)], []⟩) (rqn 2 (req (((((true && true) && true) && (Nat.beq (List.length z7x0) (List.length z7x0))) && (Nat.beq z7k0 z7k0)) && (Nat.ble ((List.length (z7x0 ++ [z7x3])) * 9) 140737488355328)) (∀ c9 : Nat, Nat.ble (List.length (z7x0 ++ [z7x3])) c9 = true → (rqn 3 (next ⟨[(2, (vi z7x4)), (4, (V.ptr 1 0)), (9, (V.ptr 7 0)), (11, (V.row 10 1 (List.length (z7x0 ++ [z7x3])) c9)), (12, (vi z7x3)), (36, (vb (decide ((((List.length z7x0) : Nat) : Int) < z7x4)))), (13, (vi z7x3)), (14, (vb true)), (51, (vb (decide (z7x3 > z7x2))))], [Blk.dead, (Blk.cells [(vi z7x1), (vi z7x2)]), Blk.dead, Blk.dead, (Blk.cells [(vi z7x3)]), Blk.dead, (Blk.cells [(V.fn 115 [] [(V.ptr 4 0)])]), (Blk.cells [(V.fn 116 [] [(V.ptr 6 0), (V.ptr 4 0)]), (V.fn 117 [] [(V.ptr 6 0), (V.ptr 4 0)])]), Blk.dead, (Blk.cells [(vi z7x3)]), (Blk.row (.int .i64) (z7x0 ++ [z7x3]) 2 c9)], []⟩))))))))) (wkK 8 K (.exit 0) ⟨[(2, (vi z7x4)), (4, (V.ptr 1 0)), (9, (V.ptr 7 0)), (11, (V.row 8 1 (List.length z7x0) z7k0)), (12, (vi z7x5)), (36, (vb (decide ((((List.length z7x0) : Nat) : Int) < z7x4))))], [Blk.dead, (Blk.cells [(vi z7x1), (vi z7x2)]), Blk.dead, Blk.dead, (Blk.cells [(vi z7x3)]), Blk.dead, (Blk.cells [(V.fn 115 [] [(V.ptr 4 0)])]), (Blk.cells [(V.fn 116 [] [(V.ptr 6 0), (V.ptr 4 0)]), (V.fn 117 [] [(V.ptr 6 0), (V.ptr 4 0)])]), (Blk.row (.int .i64) z7x0 2 z7k0)], []⟩))) := by kernel_rfl
theorem q34_1_step (n k : Nat) (z7x0 : List Int) (z7x1 : Int) (z7x2 : Int) (z7x3 : Int) (z7x4 : Int) (z7x5 : Int) (z7k0 : Nat) (y8_ : job_Times_l1_Y) (K : Ret → S → Prop) (h : job_Times_l1 (k + 1) (z7x0, z7x1, z7x2, z7x3, z7x4, z7x5) y8_) (hK : q34_1_Kp K () y8_) (next : S → Prop) (hnext : ∀ z' s', job_Times_l1 k z' y8_ → q34_1_K K z' () y8_ → (∃ cc', wk 8 s' (q34_1_st z' () cc')) → next s') : acode q34_cx 34 (acall q34_cx okT q34_lp (n + 2)) (okT 34) (q34_lp (n + 2) 34) none q34_1_body (iterK (wkK 8 K) next) (q34_1_st (z7x0, z7x1, z7x2, z7x3, z7x4, z7x5) () z7k0) := by
  refine cast (q34_1_round n z7x0 z7x1 z7x2 z7x3 z7x4 z7x5 z7k0 K next).symm ?_
  simp only [job_Times_l1] at h
  refine rqn_intro 4 ?_
  refine br_both h (fun hb h => ?_) (fun hb h => ?_)
  · refine rqn_intro 12 ?_
    refine br_both h (fun hb h => ?_) (fun hb h => ?_)
    · refine rqn_intro 15 ?_
      subst h
      refine ⟨_, ?_, hK z7k0⟩
      exact wk_of (Or.inr ⟨⟨Or.inl rfl, trivial⟩, ⟨Or.inl rfl, Or.inr (Or.inl rfl), Or.inl rfl, Or.inl rfl, Or.inr (Or.inl rfl), Or.inl rfl, Or.inr (Or.inl rfl), Or.inr (Or.inl rfl), Or.inl rfl, trivial⟩, rfl, rfl, rfl⟩)
    · refine rqn_intro 20 ?_
      refine br_both h (fun hb h => ?_) (fun hb h => ?_)
      · subst h
        refine ⟨_, ?_, hK z7k0⟩
        exact wk_of (Or.inr ⟨⟨Or.inl rfl, trivial⟩, ⟨Or.inl rfl, Or.inr (Or.inl rfl), Or.inl rfl, Or.inl rfl, Or.inr (Or.inl rfl), Or.inl rfl, Or.inr (Or.inl rfl), Or.inr (Or.inl rfl), Or.inl rfl, trivial⟩, rfl, rfl, rfl⟩)
      · refine rqn_intro 2 ?_
        obtain ⟨q, h⟩ := req_of h
        refine req_intro (band (band (band (band (band rfl rfl) rfl) (Nat.beq_refl _)) (Nat.beq_refl _)) q) ?_
        intro c9 hc9
        refine rqn_intro 3 ?_
        exact hnext ((z7x0 ++ [z7x3]), z7x1, z7x2, z7x3, z7x4, z7x3) _ h hK ⟨c9, ⟨_, ⟨[(2, (vi z7x4)), (4, (V.ptr 1 0)), (9, (V.ptr 7 0)), (11, (V.row 8 1 (List.length (z7x0 ++ [z7x3])) c9)), (12, (vi z7x3))], [Blk.dead, (Blk.cells [(vi z7x1), (vi z7x2)]), Blk.dead, Blk.dead, (Blk.cells [(vi z7x3)]), Blk.dead, (Blk.cells [(V.fn 115 [] [(V.ptr 4 0)])]), (Blk.cells [(V.fn 116 [] [(V.ptr 6 0), (V.ptr 4 0)]), (V.fn 117 [] [(V.ptr 6 0), (V.ptr 4 0)])]), (Blk.row (.int .i64) (z7x0 ++ [z7x3]) 2 c9)], []⟩, ⟨[], rfl, rfl⟩, Or.inr ⟨[0, 1, 2, 3, 4, 5, 6, 7, 10], rfl, rfl, rfl, rfl, rfl, ⟨rfl, rfl, rfl, rfl, rfl, trivial⟩, ⟨Or.inl rfl, Or.inr rfl, Or.inl rfl, Or.inl rfl, Or.inr rfl, Or.inl rfl, Or.inr rfl, Or.inr rfl, Or.inr rfl, trivial⟩, rfl, rfl⟩, Or.inr ⟨⟨Or.inl rfl, Or.inl rfl, Or.inl rfl, Or.inl rfl, Or.inl rfl, trivial⟩, ⟨Or.inl rfl, Or.inl rfl, Or.inl rfl, Or.inl rfl, Or.inl rfl, Or.inl rfl, Or.inl rfl, Or.inl rfl, Or.inl rfl, trivial⟩, rfl, rfl, rfl⟩⟩⟩
  · subst h
    refine ⟨_, ?_, hK z7k0⟩
    exact wk_of (Or.inr ⟨⟨Or.inl rfl, trivial⟩, ⟨Or.inl rfl, Or.inr (Or.inl rfl), Or.inl rfl, Or.inl rfl, Or.inr (Or.inl rfl), Or.inl rfl, Or.inr (Or.inl rfl), Or.inr (Or.inl rfl), Or.inl rfl, trivial⟩, rfl, rfl, rfl⟩)
theorem q34_1_ok (n : Nat) : Owed q34_cx okT 34 q34_lp (n + 2) q34_1_lp := loop_owed (fun z y h => h) fun k zz qq cc yy K h hK next hnext => q34_1_step n k zz.1 zz.2.1 zz.2.2.1 zz.2.2.2.1 zz.2.2.2.2.1 zz.2.2.2.2.2 cc yy K h hK next hnext
theorem q34_2_round (n : Nat) (z12x0 : List Int) (z12x1 : Int) (z12x2 : Int) (z12x3 : Int) (z12x4 : Int) (z12x5 : Int) (z12x6 : Int) (z12x7 : Int) (z12x8 : Int) (z12x9 : Int) (z12k0 : Nat) (K : Ret → S → Prop) (next : S → Prop) : acode q34_cx 34 (acall q34_cx okT q34_lp (n + 2)) (okT 34) (q34_lp (n + 2) 34) none q34_2_body (iterK (wkK 7 K) next) (q34_2_st (z12x0, z12x1, z12x2, z12x3, z12x4, z12x5, z12x6, z12x7, z12x8, z12x9) () z12k0) =
    (rqn 4 (br (decide ((((List.length z12x0) : Nat) : Int) < z12x8)) (rqn 7 (∃ y14 : Int × Bool, (next_Next_R z12x3 z12x4 z12x5 z12x6 z12x7 z12x9 y14) ∧ (rqn 12 (br (!(y14.2)) (req true (wkK 7 K (.exit 0) ⟨[(2, (vi z12x8)), (4, (V.ptr 1 0)), (9, (V.ptr 6 0)), (11, (V.row 7 1 (List.length z12x0) z12k0)), (12, (vi z12x9)), (36, (vb (decide ((((List.length z12x0) : Nat) : Int) < z12x8)))), (13, (vi (y14.1))), (14, (vb (y14.2))), (51, (vb true))], [Blk.dead, (Blk.cells [(vi z12x1), (vi z12x2)]), Blk.dead, Blk.dead, (Blk.cells [(vu z12x3), (vu z12x4), (vu z12x5), (vu z12x6), (vu z12x7)]), Blk.dead, (Blk.cells [(V.fn 118 [] [(V.ptr 4 0)]), (V.fn 119 [] [(V.ptr 4 0)])]), (Blk.row (.int .i64) z12x0 2 z12k0)], []⟩)) (rqn 5 (br (decide ((y14.1) > z12x2)) (wkK 7 K (.exit 0) ⟨[(2, (vi z12x8)), (4, (V.ptr 1 0)), (9, (V.ptr 6 0)), (11, (V.row 7 1 (List.length z12x0) z12k0)), (12, (vi z12x9)), (36, (vb (decide ((((List.length z12x0) : Nat) : Int) < z12x8)))), (13, (vi (y14.1))), (14, (vb (y14.2))), (51, (vb (decide ((y14.1) > z12x2))))], [Blk.dead, (Blk.cells [(vi z12x1), (vi z12x2)]), Blk.dead, Blk.dead, (Blk.cells [(vu z12x3), (vu z12x4), (vu z12x5), (vu z12x6), (vu z12x7)]), Blk.dead, (Blk.cells [(V.fn 118 [] [(V.ptr 4 0)]), (V.fn 119 [] [(V.ptr 4 0)])]), (Blk.row (.int .i64) z12x0 2 z12k0)], []⟩) (rqn 2 (req (((((true && true) && true) && (Nat.beq (List.length z12x0) (List.length z12x0))) && (Nat.beq z12k0 z12k0)) && (Nat.ble ((List.length (z12x0 ++ [(y14.1)])) * 9) 140737488355328)) (∀ c15 : Nat, Nat.ble (List.length (z12x0 ++ [(y14.1)])) c15 = true → (rqn 3 (next ⟨[(2, (vi z12x8)), (4, (V.ptr 1 0)), (9, (V.ptr 6 0)), (11, (V.row 9 1 (List.length (z12x0 ++ [(y14.1)])) c15)), (12, (vi (y14.1))), (36, (vb (decide ((((List.length z12x0) : Nat) : Int) < z12x8)))), (13, (vi (y14.1))), (14, (vb (y14.2))), (51, (vb (decide ((y14.1) > z12x2))))], [Blk.dead, (Blk.cells [(vi z12x1), (vi z12x2)]), Blk.dead, Blk.dead, (Blk.cells [(vu z12x3), (vu z12x4), (vu z12x5), (vu z12x6), (vu z12x7)]), Blk.dead, (Blk.cells [(V.fn 118 [] [(V.ptr 4 0)]), (V.fn 119 [] [(V.ptr 4 0)])]), Blk.dead, (Blk.cells [(vi (y14.1))]), (Blk.row (.int .i64) (z12x0 ++ [(y14.1)]) 2 c15)], []⟩))))))))))) (wkK 7 K (.exit 0) ⟨[(2, (vi z12x8)), (4, (V.ptr 1 0)), (9, (V.ptr 6 0)), (11, (V.row 7 1 (List.length z12x0) z12k0)), (12, (vi z12x9)), (36, (vb (decide ((((List.length z12x0) : Nat) : Int) < z12x8))))], [Blk.dead, (Blk.cells [(vi z12x1), (vi z12x2)]), Blk.dead, Blk.dead, (Blk.cells [(vu z12x3), (vu z12x4), (vu z12x5), (vu z12x6), (vu z12x7)]), Blk.dead, (Blk.cells [(V.fn 118 [] [(V.ptr 4 0)]), (V.fn 119 [] [(V.ptr 4 0)])]), (Blk.row (.int .i64) z12x0 2 z12k0)], []⟩))) := by kernel_rfl
theorem q34_2_step (n k : Nat) (z12x0 : List Int) (z12x1 : Int) (z12x2 : Int) (z12x3 : Int) (z12x4 : Int) (z12x5 : Int) (z12x6 : Int) (z12x7 : Int) (z12x8 : Int) (z12x9 : Int) (z12k0 : Nat) (y13_ : job_Times_l2_Y) (K : Ret → S → Prop) (h : job_Times_l2 (k + 1) (z12x0, z12x1, z12x2, z12x3, z12x4, z12x5, z12x6, z12x7, z12x8, z12x9) y13_) (hK : q34_2_Kp K () y13_) (next : S → Prop) (hnext : ∀ z' s', job_Times_l2 k z' y13_ → q34_2_K K z' () y13_ → (∃ cc', wk 7 s' (q34_2_st z' () cc')) → next s') : acode q34_cx 34 (acall q34_cx okT q34_lp (n + 2)) (okT 34) (q34_lp (n + 2) 34) none q34_2_body (iterK (wkK 7 K) next) (q34_2_st (z12x0, z12x1, z12x2, z12x3, z12x4, z12x5, z12x6, z12x7, z12x8, z12x9) () z12k0) := by
  refine cast (q34_2_round n z12x0 z12x1 z12x2 z12x3 z12x4 z12x5 z12x6 z12x7 z12x8 z12x9 z12k0 K next).symm ?_
  simp only [job_Times_l2] at h
  refine rqn_intro 4 ?_
  refine br_both h (fun hb h => ?_) (fun hb h => ?_)
  · refine rqn_intro 7 ?_
    refine ex_both h fun y14 h => ?_
    refine rqn_intro 12 ?_
    refine br_both h (fun hb h => ?_) (fun hb h => ?_)
    · refine req_intro rfl ?_
      subst h
      refine ⟨_, ?_, hK z12k0⟩
      exact wk_of (Or.inr ⟨⟨Or.inl rfl, trivial⟩, ⟨Or.inl rfl, Or.inr (Or.inl rfl), Or.inl rfl, Or.inl rfl, Or.inr (Or.inl rfl), Or.inl rfl, Or.inr (Or.inl rfl), Or.inl rfl, trivial⟩, rfl, rfl, rfl⟩)
    · refine rqn_intro 5 ?_
      refine br_both h (fun hb h => ?_) (fun hb h => ?_)
      · subst h
        refine ⟨_, ?_, hK z12k0⟩
        exact wk_of (Or.inr ⟨⟨Or.inl rfl, trivial⟩, ⟨Or.inl rfl, Or.inr (Or.inl rfl), Or.inl rfl, Or.inl rfl, Or.inr (Or.inl rfl), Or.inl rfl, Or.inr (Or.inl rfl), Or.inl rfl, trivial⟩, rfl, rfl, rfl⟩)
      · refine rqn_intro 2 ?_
        obtain ⟨q, h⟩ := req_of h
        refine req_intro (band (band (band (band (band rfl rfl) rfl) (Nat.beq_refl _)) (Nat.beq_refl _)) q) ?_
        intro c15 hc15
        refine rqn_intro 3 ?_
        exact hnext ((z12x0 ++ [(y14.1)]), z12x1, z12x2, z12x3, z12x4, z12x5, z12x6, z12x7, z12x8, (y14.1)) _ h hK ⟨c15, ⟨_, ⟨[(2, (vi z12x8)), (4, (V.ptr 1 0)), (9, (V.ptr 6 0)), (11, (V.row 7 1 (List.length (z12x0 ++ [(y14.1)])) c15)), (12, (vi (y14.1)))], [Blk.dead, (Blk.cells [(vi z12x1), (vi z12x2)]), Blk.dead, Blk.dead, (Blk.cells [(vu z12x3), (vu z12x4), (vu z12x5), (vu z12x6), (vu z12x7)]), Blk.dead, (Blk.cells [(V.fn 118 [] [(V.ptr 4 0)]), (V.fn 119 [] [(V.ptr 4 0)])]), (Blk.row (.int .i64) (z12x0 ++ [(y14.1)]) 2 c15)], []⟩, ⟨[], rfl, rfl⟩, Or.inr ⟨[0, 1, 2, 3, 4, 5, 6, 9], rfl, rfl, rfl, rfl, rfl, ⟨rfl, rfl, rfl, rfl, rfl, trivial⟩, ⟨Or.inl rfl, Or.inr rfl, Or.inl rfl, Or.inl rfl, Or.inr rfl, Or.inl rfl, Or.inr rfl, Or.inr rfl, trivial⟩, rfl, rfl⟩, Or.inr ⟨⟨Or.inl rfl, Or.inl rfl, Or.inl rfl, Or.inl rfl, Or.inl rfl, trivial⟩, ⟨Or.inl rfl, Or.inl rfl, Or.inl rfl, Or.inl rfl, Or.inl rfl, Or.inl rfl, Or.inl rfl, Or.inl rfl, trivial⟩, rfl, rfl, rfl⟩⟩⟩
  · subst h
    refine ⟨_, ?_, hK z12k0⟩
    exact wk_of (Or.inr ⟨⟨Or.inl rfl, trivial⟩, ⟨Or.inl rfl, Or.inr (Or.inl rfl), Or.inl rfl, Or.inl rfl, Or.inr (Or.inl rfl), Or.inl rfl, Or.inr (Or.inl rfl), Or.inl rfl, trivial⟩, rfl, rfl, rfl⟩)
theorem q34_2_ok (n : Nat) : Owed q34_cx okT 34 q34_lp (n + 2) q34_2_lp := loop_owed (fun z y h => h) fun k zz qq cc yy K h hK next hnext => q34_2_step n k zz.1 zz.2.1 zz.2.2.1 zz.2.2.2.1 zz.2.2.2.2.1 zz.2.2.2.2.2.1 zz.2.2.2.2.2.2.1 zz.2.2.2.2.2.2.2.1 zz.2.2.2.2.2.2.2.2.1 zz.2.2.2.2.2.2.2.2.2 cc yy K h hK next hnext
theorem q34_lpok : LpOk q34_cx okT q34_lp := LpOk_tab ⟨q34_0_ok, q34_1_ok, q34_2_ok, trivial⟩
def job_Times_R (a0 : Int) (a1 : Bool) (a2 : Int) (a3 : Int) (a4 : Int) (a5 : Int) (a6 : Int) (a7 : Int) (a8 : Int) (a9 : Int) (a10 : Int) (a11 : Int) (a12 : Int) (a13 : Int) (y : List Int × Int) : Prop :=
  (∃ y1 : Int, (job_Check_R a0 a1 a2 a3 a4 a5 a6 a7 a8 a9 a10 y1) ∧ (br (y1 != 0) (([], y1) = y) (br (decide (a13 < 0)) (([], 2) = y) (br (decide (a13 > 64)) (([], 2) = y) (∃ y2 : Int, (job_Check_R a0 a1 a2 a3 a4 a5 a6 a7 a8 a9 a10 y2) ∧ (br (y2 != 0) (∃ y6 : job_Times_l0_Y, job_Times_l0_L (a11, a12, a13) y6 ∧ (([], 0) = y)) (br a1 (∃ y11 : job_Times_l1_Y, job_Times_l1_L ([], a11, a12, a7, a13, a11) y11 ∧ ((y11, 0) = y)) (∃ y17 : job_Times_l2_Y, job_Times_l2_L ([], a11, a12, a2, a3, a4, a5, a6, a13, a11) y17 ∧ ((y17, 0) = y)))))))))
theorem q34_tree (a0 : Int) (a1 : Bool) (a2 : Int) (a3 : Int) (a4 : Int) (a5 : Int) (a6 : Int) (a7 : Int) (a8 : Int) (a9 : Int) (a10 : Int) (a11 : Int) (a12 : Int) (a13 : Int) (y : List Int × Int) : acall q34_cx okT q34_lp 60 (.fn 34 [] []) [(V.agg [(V.int .u32 a0), (V.bool a1), (V.int .u64 a2), (V.int .u64 a3), (V.int .u64 a4), (V.int .u64 a5), (V.int .u64 a6), (V.int .i64 a7), (V.int .i64 a8), (V.int .i64 a9), (V.int .i64 a10)]), (V.agg [(V.int .i64 a11), (V.int .i64 a12)]), (V.int .i64 a13)] [] (leafK (.tup (.cons (.nw (.int .i64) 2) (.one (.int .i64)))) y) =
    (rqn 4 (∃ y1 : Int, (job_Check_R a0 a1 a2 a3 a4 a5 a6 a7 a8 a9 a10 y1) ∧ (rqn 3 (br (y1 != 0) (rqn 3 (req true (([], y1) = y))) (rqn 3 (br (decide (a13 < 0)) (rqn 3 (req true (([], 2) = y))) (rqn 3 (br (decide (a13 > 64)) (rqn 2 (req true (([], 2) = y))) (rqn 4 (∃ y2 : Int, (job_Check_R a0 a1 a2 a3 a4 a5 a6 a7 a8 a9 a10 y2) ∧ (req true (br (y2 != 0) (rqn 10 (((none : Option Nat) = (none : Option Nat)) ∧ (q34_0_body = q34_0_body) ∧ ∃ z5 : job_Times_l0_Z, ∃ z5q : q34_0_Q, ∃ y6 : job_Times_l0_Y, (3 = 3) ∧ (∃ zc : q34_0_C, wk 3 ⟨[(0, (V.agg [(V.int .u32 a0), (vb a1), (vu a2), (vu a3), (vu a4), (vu a5), (vu a6), (vi a7), (vi a8), (vi a9), (vi a10)])), (1, (V.agg [(vi a11), (vi a12)])), (2, (vi a13)), (3, (V.ptr 0 0)), (4, (V.ptr 1 0)), (6, (V.old (.slice none 0 0))), (7, (vi 0)), (8, (vi y1)), (18, (vb (y1 != 0))), (25, (vb (decide (a13 > 64)))), (9, (V.ptr 2 0)), (11, (V.old (.slice none 0 0))), (12, (vi a11))], [(Blk.cells [(V.int .u32 a0), (vb a1), (vu a2), (vu a3), (vu a4), (vu a5), (vu a6), (vi a7), (vi a8), (vi a9), (vi a10)]), (Blk.cells [(vi a11), (vi a12)]), (Blk.cells [(V.old .nilFunc), (V.old .nilFunc)])], []⟩ (q34_0_st z5 z5q zc)) ∧ (∃ k, job_Times_l0 k z5 y6) ∧ (rqn 3 (req true (([], 0) = y))))) (rqn 2 (br a1 (rqn 15 (((none : Option Nat) = (none : Option Nat)) ∧ (q34_1_body = q34_1_body) ∧ ∃ z10 : job_Times_l1_Z, ∃ z10q : q34_1_Q, ∃ y11 : job_Times_l1_Y, (8 = 8) ∧ (∃ zc : q34_1_C, wk 8 ⟨[(0, (V.agg [(V.int .u32 a0), (vb a1), (vu a2), (vu a3), (vu a4), (vu a5), (vu a6), (vi a7), (vi a8), (vi a9), (vi a10)])), (1, (V.agg [(vi a11), (vi a12)])), (2, (vi a13)), (3, (V.ptr 0 0)), (4, (V.ptr 1 0)), (6, (V.old (.slice none 0 0))), (7, (vi 0)), (8, (vi y1)), (18, (vb (y1 != 0))), (25, (vb (decide (a13 > 64)))), (9, (V.ptr 7 0)), (11, (V.old (.slice none 0 0))), (12, (vi a11))], [(Blk.cells [(V.int .u32 a0), (vb a1), (vu a2), (vu a3), (vu a4), (vu a5), (vu a6), (vi a7), (vi a8), (vi a9), (vi a10)]), (Blk.cells [(vi a11), (vi a12)]), (Blk.cells [(V.int .u32 a0), (vb a1), (vu a2), (vu a3), (vu a4), (vu a5), (vu a6), (vi a7), (vi a8), (vi a9), (vi a10)]), (Blk.cells [(V.fn 116 [] [(V.ptr 6 0), (V.ptr 4 0)]), (V.fn 117 [] [(V.ptr 6 0), (V.ptr 4 0)])]), (Blk.cells [(vi a7)]), (Blk.cells [(V.fn 116 [] [(V.ptr 6 0), (V.ptr 4 0)]), (V.fn 117 [] [(V.ptr 6 0), (V.ptr 4 0)])]), (Blk.cells [(V.fn 115 [] [(V.ptr 4 0)])]), (Blk.cells [(V.fn 116 [] [(V.ptr 6 0), (V.ptr 4 0)]), (V.fn 117 [] [(V.ptr 6 0), (V.ptr 4 0)])])], []⟩ (q34_1_st z10 z10q zc)) ∧ (∃ k, job_Times_l1 k z10 y11) ∧ (∀ y11c : Nat, (rqn 3 (req ((true && true) && (((Nat.beq (List.length y11) (List.length y11)) && (Nat.beq y11c y11c)) && true)) ((y11, 0) = y)))))) (rqn 14 (((none : Option Nat) = (none : Option Nat)) ∧ (q34_2_body = q34_2_body) ∧ ∃ z16 : job_Times_l2_Z, ∃ z16q : q34_2_Q, ∃ y17 : job_Times_l2_Y, (7 = 7) ∧ (∃ zc : q34_2_C, wk 7 ⟨[(0, (V.agg [(V.int .u32 a0), (vb a1), (vu a2), (vu a3), (vu a4), (vu a5), (vu a6), (vi a7), (vi a8), (vi a9), (vi a10)])), (1, (V.agg [(vi a11), (vi a12)])), (2, (vi a13)), (3, (V.ptr 0 0)), (4, (V.ptr 1 0)), (6, (V.old (.slice none 0 0))), (7, (vi 0)), (8, (vi y1)), (18, (vb (y1 != 0))), (25, (vb (decide (a13 > 64)))), (9, (V.ptr 6 0)), (11, (V.old (.slice none 0 0))), (12, (vi a11))], [(Blk.cells [(V.int .u32 a0), (vb a1), (vu a2), (vu a3), (vu a4), (vu a5), (vu a6), (vi a7), (vi a8), (vi a9), (vi a10)]), (Blk.cells [(vi a11), (vi a12)]), (Blk.cells [(V.int .u32 a0), (vb a1), (vu a2), (vu a3), (vu a4), (vu a5), (vu a6), (vi a7), (vi a8), (vi a9), (vi a10)]), (Blk.cells [(V.fn 118 [] [(V.ptr 4 0)]), (V.fn 119 [] [(V.ptr 4 0)])]), (Blk.cells [(vu a2), (vu a3), (vu a4), (vu a5), (vu a6)]), (Blk.cells [(V.fn 118 [] [(V.ptr 4 0)]), (V.fn 119 [] [(V.ptr 4 0)])]), (Blk.cells [(V.fn 118 [] [(V.ptr 4 0)]), (V.fn 119 [] [(V.ptr 4 0)])])], []⟩ (q34_2_st z16 z16q zc)) ∧ (∃ k, job_Times_l2 k z16 y17) ∧ (∀ y17c : Nat, (rqn 3 (req ((true && true) && (((Nat.beq (List.length y17) (List.length y17)) && (Nat.beq y17c y17c)) && true)) ((y17, 0) = y)))))))))))))))))))) := by kernel_rfl
theorem q34_run (a0 : Int) (a1 : Bool) (a2 : Int) (a3 : Int) (a4 : Int) (a5 : Int) (a6 : Int) (a7 : Int) (a8 : Int) (a9 : Int) (a10 : Int) (a11 : Int) (a12 : Int) (a13 : Int) (y : List Int × Int) (h : job_Times_R a0 a1 a2 a3 a4 a5 a6 a7 a8 a9 a10 a11 a12 a13 y) : acall q34_cx okT q34_lp 60 (.fn 34 [] []) [(V.agg [(V.int .u32 a0), (V.bool a1), (V.int .u64 a2), (V.int .u64 a3), (V.int .u64 a4), (V.int .u64 a5), (V.int .u64 a6), (V.int .i64 a7), (V.int .i64 a8), (V.int .i64 a9), (V.int .i64 a10)]), (V.agg [(V.int .i64 a11), (V.int .i64 a12)]), (V.int .i64 a13)] [] (leafK (.tup (.cons (.nw (.int .i64) 2) (.one (.int .i64)))) y) := by
  refine cast (q34_tree a0 a1 a2 a3 a4 a5 a6 a7 a8 a9 a10 a11 a12 a13 y).symm ?_
  unfold job_Times_R at h
  refine rqn_intro 4 ?_
  refine ex_both h fun y1 h => ?_
  refine rqn_intro 3 ?_
  refine br_both h (fun hb h => ?_) (fun hb h => ?_)
  · refine rqn_intro 3 ?_
    exact req_intro rfl h
  · refine rqn_intro 3 ?_
    refine br_both h (fun hb h => ?_) (fun hb h => ?_)
    · refine rqn_intro 3 ?_
      exact req_intro rfl h
    · refine rqn_intro 3 ?_
      refine br_both h (fun hb h => ?_) (fun hb h => ?_)
      · refine rqn_intro 2 ?_
        exact req_intro rfl h
      · refine rqn_intro 4 ?_
        refine ex_both h fun y2 h => ?_
        refine req_intro rfl ?_
        refine br_both h (fun hb h => ?_) (fun hb h => ?_)
        · refine rqn_intro 10 ?_
          obtain ⟨y6, ry6, h⟩ := h
          refine ⟨rfl, rfl, (a11, a12, a13), (), y6, rfl, ⟨(), wk_of (Or.inr ⟨⟨Or.inl rfl, Or.inl rfl, Or.inl rfl, Or.inl rfl, Or.inl rfl, trivial⟩, ⟨Or.inr (Or.inl rfl), Or.inl rfl, Or.inl rfl, trivial⟩, rfl, rfl, rfl⟩)⟩, ry6, ?_⟩
          refine rqn_intro 3 ?_
          exact req_intro rfl h
        · refine rqn_intro 2 ?_
          refine br_both h (fun hb h => ?_) (fun hb h => ?_)
          · refine rqn_intro 15 ?_
            obtain ⟨y11, ry11, h⟩ := h
            refine ⟨rfl, rfl, ([], a11, a12, a7, a13, a11), (), y11, rfl, ⟨0, ⟨_, ⟨[(2, (vi a13)), (4, (V.ptr 1 0)), (9, (V.ptr 7 0)), (11, (V.old (.slice none 0 0))), (12, (vi a11))], [Blk.dead, (Blk.cells [(vi a11), (vi a12)]), Blk.dead, Blk.dead, (Blk.cells [(vi a7)]), Blk.dead, (Blk.cells [(V.fn 115 [] [(V.ptr 4 0)])]), (Blk.cells [(V.fn 116 [] [(V.ptr 6 0), (V.ptr 4 0)]), (V.fn 117 [] [(V.ptr 6 0), (V.ptr 4 0)])]), Blk.dead], []⟩, ⟨[], rfl, rfl⟩, Or.inr ⟨[0, 1, 2, 3, 4, 5, 6, 7, 0], rfl, rfl, rfl, rfl, rfl, ⟨rfl, rfl, rfl, rfl, rfl, trivial⟩, ⟨Or.inl rfl, Or.inr rfl, Or.inl rfl, Or.inl rfl, Or.inr rfl, Or.inl rfl, Or.inr rfl, Or.inr rfl, Or.inl rfl, trivial⟩, rfl, rfl⟩, Or.inr ⟨⟨Or.inl rfl, Or.inl rfl, Or.inl rfl, Or.inr (Or.inr (Or.inl ⟨rfl, Or.inl ⟨_, _, rfl⟩⟩)), Or.inl rfl, trivial⟩, ⟨Or.inl rfl, Or.inl rfl, Or.inl rfl, Or.inl rfl, Or.inl rfl, Or.inl rfl, Or.inl rfl, Or.inl rfl, Or.inr (Or.inr (Or.inl ⟨_, _, rfl⟩)), trivial⟩, rfl, rfl, rfl⟩⟩⟩, ry11, ?_⟩
            intro y11c
            refine rqn_intro 3 ?_
            exact req_intro (band (band rfl rfl) (band (band (Nat.beq_refl _) (Nat.beq_refl _)) rfl)) h
          · refine rqn_intro 14 ?_
            obtain ⟨y17, ry17, h⟩ := h
            refine ⟨rfl, rfl, ([], a11, a12, a2, a3, a4, a5, a6, a13, a11), (), y17, rfl, ⟨0, ⟨_, ⟨[(2, (vi a13)), (4, (V.ptr 1 0)), (9, (V.ptr 6 0)), (11, (V.old (.slice none 0 0))), (12, (vi a11))], [Blk.dead, (Blk.cells [(vi a11), (vi a12)]), Blk.dead, Blk.dead, (Blk.cells [(vu a2), (vu a3), (vu a4), (vu a5), (vu a6)]), Blk.dead, (Blk.cells [(V.fn 118 [] [(V.ptr 4 0)]), (V.fn 119 [] [(V.ptr 4 0)])]), Blk.dead], []⟩, ⟨[], rfl, rfl⟩, Or.inr ⟨[0, 1, 2, 3, 4, 5, 6, 0], rfl, rfl, rfl, rfl, rfl, ⟨rfl, rfl, rfl, rfl, rfl, trivial⟩, ⟨Or.inl rfl, Or.inr rfl, Or.inl rfl, Or.inl rfl, Or.inr rfl, Or.inl rfl, Or.inr rfl, Or.inl rfl, trivial⟩, rfl, rfl⟩, Or.inr ⟨⟨Or.inl rfl, Or.inl rfl, Or.inl rfl, Or.inr (Or.inr (Or.inl ⟨rfl, Or.inl ⟨_, _, rfl⟩⟩)), Or.inl rfl, trivial⟩, ⟨Or.inl rfl, Or.inl rfl, Or.inl rfl, Or.inl rfl, Or.inl rfl, Or.inl rfl, Or.inl rfl, Or.inr (Or.inr (Or.inl ⟨_, _, rfl⟩)), trivial⟩, rfl, rfl, rfl⟩⟩⟩, ry17, ?_⟩
            intro y17c
            refine rqn_intro 3 ?_
            exact req_intro (band (band rfl rfl) (band (band (Nat.beq_refl _) (Nat.beq_refl _)) rfl)) h
theorem job_Times_ok : FxOk Tryd.prog gsT 34 (.cons (.agg (.cons (.int .u32) (.cons .bool (.cons (.int .u64) (.cons (.int .u64) (.cons (.int .u64) (.cons (.int .u64) (.cons (.int .u64) (.cons (.int .i64) (.cons (.int .i64) (.cons (.int .i64) (.one (.int .i64))))))))))))) (.cons (.agg (.cons (.int .i64) (.one (.int .i64)))) (.one (.int .i64)))) (.tup (.cons (.nw (.int .i64) 2) (.one (.int .i64)))) fun x y => job_Times_R (x.1.1) (x.1.2.1) (x.1.2.2.1) (x.1.2.2.2.1) (x.1.2.2.2.2.1) (x.1.2.2.2.2.2.1) (x.1.2.2.2.2.2.2.1) (x.1.2.2.2.2.2.2.2.1) (x.1.2.2.2.2.2.2.2.2.1) (x.1.2.2.2.2.2.2.2.2.2.1) (x.1.2.2.2.2.2.2.2.2.2.2) (x.2.1.1) (x.2.1.2) (x.2.2) y := fx_of (c := q34_cx) (ty_ok rfl) (eq_ok rfl) q34_fns follows_ok (ok := okT) (lp := q34_lp) (n := 60) q34_lpok (enters Tryd.func34 (by kernel_rfl) rfl) (fun y => ⟨_, rfl⟩) fun x y h => q34_run _ _ _ _ _ _ _ _ _ _ _ _ _ _ y h
noncomputable def q68_cx : Cx := ⟨tyT, [(32, .fx (.cons (.agg (.cons (.int .u32) (.cons .bool (.cons (.int .u64) (.cons (.int .u64) (.cons (.int .u64) (.cons (.int .u64) (.cons (.int .u64) (.cons (.int .i64) (.cons (.int .i64) (.cons (.int .i64) (.one (.int .i64))))))))))))) (.one (.int .i64))) (.tup (.cons (.int .i64) (.one .bool))) fun x y => job_First_R (x.1.1) (x.1.2.1) (x.1.2.2.1) (x.1.2.2.2.1) (x.1.2.2.2.2.1) (x.1.2.2.2.2.2.1) (x.1.2.2.2.2.2.2.1) (x.1.2.2.2.2.2.2.2.1) (x.1.2.2.2.2.2.2.2.2.1) (x.1.2.2.2.2.2.2.2.2.2.1) (x.1.2.2.2.2.2.2.2.2.2.2) (x.2) y),
  (68, .body Tryd.f68)], gsT, eqT⟩
theorem q68_fns : FnsOk Tryd.prog q68_cx := Fns_assoc ⟨job_First_ok, body_ent Tryd.func68 (by kernel_rfl) (by kernel_rfl), trivial⟩
def due_next_R (a0 : Int) (a1 : Bool) (a2 : Int) (a3 : Int) (a4 : Int) (a5 : Int) (a6 : Int) (a7 : Int) (a8 : Int) (a9 : Int) (a10 : Int) (a11 : Int) (y : Int) : Prop :=
  (∃ y1 : Int × Bool, (job_First_R a0 a1 a2 a3 a4 a5 a6 a7 a8 a9 a10 a11 y1) ∧ (br (y1.2) ((y1.1) = y) ((-1) = y)))
theorem q68_tree (a0 : Int) (a1 : Bool) (a2 : Int) (a3 : Int) (a4 : Int) (a5 : Int) (a6 : Int) (a7 : Int) (a8 : Int) (a9 : Int) (a10 : Int) (a11 : Int) (y : Int) : acall q68_cx okT lpT 60 (.fn 68 [] []) [(V.agg [(V.int .u32 a0), (V.bool a1), (V.int .u64 a2), (V.int .u64 a3), (V.int .u64 a4), (V.int .u64 a5), (V.int .u64 a6), (V.int .i64 a7), (V.int .i64 a8), (V.int .i64 a9), (V.int .i64 a10)]), (V.int .i64 a11)] [] (leafK (.int .i64) y) =
    (rqn 4 (∃ y1 : Int × Bool, (job_First_R a0 a1 a2 a3 a4 a5 a6 a7 a8 a9 a10 a11 y1) ∧ (rqn 6 (br (y1.2) (rqn 2 (req true ((y1.1) = y))) (req true (req true ((-1) = y))))))) := by kernel_rfl
theorem q68_run (a0 : Int) (a1 : Bool) (a2 : Int) (a3 : Int) (a4 : Int) (a5 : Int) (a6 : Int) (a7 : Int) (a8 : Int) (a9 : Int) (a10 : Int) (a11 : Int) (y : Int) (h : due_next_R a0 a1 a2 a3 a4 a5 a6 a7 a8 a9 a10 a11 y) : acall q68_cx okT lpT 60 (.fn 68 [] []) [(V.agg [(V.int .u32 a0), (V.bool a1), (V.int .u64 a2), (V.int .u64 a3), (V.int .u64 a4), (V.int .u64 a5), (V.int .u64 a6), (V.int .i64 a7), (V.int .i64 a8), (V.int .i64 a9), (V.int .i64 a10)]), (V.int .i64 a11)] [] (leafK (.int .i64) y) := by
  refine cast (q68_tree a0 a1 a2 a3 a4 a5 a6 a7 a8 a9 a10 a11 y).symm ?_
  unfold due_next_R at h
  refine rqn_intro 4 ?_
  refine ex_both h fun y1 h => ?_
  refine rqn_intro 6 ?_
  refine br_both h (fun hb h => ?_) (fun hb h => ?_)
  · refine rqn_intro 2 ?_
    exact req_intro rfl h
  · refine req_intro rfl ?_
    exact req_intro rfl h
theorem due_next_ok : FxOk Tryd.prog gsT 68 (.cons (.agg (.cons (.int .u32) (.cons .bool (.cons (.int .u64) (.cons (.int .u64) (.cons (.int .u64) (.cons (.int .u64) (.cons (.int .u64) (.cons (.int .i64) (.cons (.int .i64) (.cons (.int .i64) (.one (.int .i64))))))))))))) (.one (.int .i64))) (.int .i64) fun x y => due_next_R (x.1.1) (x.1.2.1) (x.1.2.2.1) (x.1.2.2.2.1) (x.1.2.2.2.2.1) (x.1.2.2.2.2.2.1) (x.1.2.2.2.2.2.2.1) (x.1.2.2.2.2.2.2.2.1) (x.1.2.2.2.2.2.2.2.2.1) (x.1.2.2.2.2.2.2.2.2.2.1) (x.1.2.2.2.2.2.2.2.2.2.2) (x.2) y := fx_of (c := q68_cx) (ty_ok rfl) (eq_ok rfl) q68_fns follows_ok (ok := okT) (lp := lpT) (n := 60) lp_ok (enters Tryd.func68 (by kernel_rfl) rfl) (fun y => ⟨_, rfl⟩) fun x y h => q68_run _ _ _ _ _ _ _ _ _ _ _ _ y h
noncomputable def q30_cx : Cx := ⟨tyT, [(27, .fx (.one (.agg (.cons (.int .u32) (.cons .bool (.cons (.int .u64) (.cons (.int .u64) (.cons (.int .u64) (.cons (.int .u64) (.cons (.int .u64) (.cons (.int .i64) (.cons (.int .i64) (.cons (.int .i64) (.cons (.int .i64) (.cons .bool (.cons (.int .i64) (.cons (.int .u64) (.cons (.int .i64) (.cons (.int .i64) (.one (.sl (.int .i64))))))))))))))))))))) (.int .i64) fun x y => table_CheckRow_R (x.1) (x.2.1) (x.2.2.1) (x.2.2.2.1) (x.2.2.2.2.1) (x.2.2.2.2.2.1) (x.2.2.2.2.2.2.1) (x.2.2.2.2.2.2.2.1) (x.2.2.2.2.2.2.2.2.1) (x.2.2.2.2.2.2.2.2.2.1) (x.2.2.2.2.2.2.2.2.2.2.1) (x.2.2.2.2.2.2.2.2.2.2.2.1) (x.2.2.2.2.2.2.2.2.2.2.2.2.1) (x.2.2.2.2.2.2.2.2.2.2.2.2.2.1) (x.2.2.2.2.2.2.2.2.2.2.2.2.2.2.1) (x.2.2.2.2.2.2.2.2.2.2.2.2.2.2.2.1) (x.2.2.2.2.2.2.2.2.2.2.2.2.2.2.2.2) y),
  (30, .body Tryd.f30),
  (31, .fx (.cons (.agg (.cons (.int .u32) (.cons .bool (.cons (.int .u64) (.cons (.int .u64) (.cons (.int .u64) (.cons (.int .u64) (.cons (.int .u64) (.cons (.int .i64) (.cons (.int .i64) (.cons (.int .i64) (.one (.int .i64))))))))))))) (.one (.int .i64))) (.tup (.cons (.int .i64) (.one .bool))) fun x y => job_Latest_R (x.1.1) (x.1.2.1) (x.1.2.2.1) (x.1.2.2.2.1) (x.1.2.2.2.2.1) (x.1.2.2.2.2.2.1) (x.1.2.2.2.2.2.2.1) (x.1.2.2.2.2.2.2.2.1) (x.1.2.2.2.2.2.2.2.2.1) (x.1.2.2.2.2.2.2.2.2.2.1) (x.1.2.2.2.2.2.2.2.2.2.2) (x.2) y),
  (34, .fx (.cons (.agg (.cons (.int .u32) (.cons .bool (.cons (.int .u64) (.cons (.int .u64) (.cons (.int .u64) (.cons (.int .u64) (.cons (.int .u64) (.cons (.int .i64) (.cons (.int .i64) (.cons (.int .i64) (.one (.int .i64))))))))))))) (.cons (.agg (.cons (.int .i64) (.one (.int .i64)))) (.one (.int .i64)))) (.tup (.cons (.nw (.int .i64) 2) (.one (.int .i64)))) fun x y => job_Times_R (x.1.1) (x.1.2.1) (x.1.2.2.1) (x.1.2.2.2.1) (x.1.2.2.2.2.1) (x.1.2.2.2.2.2.1) (x.1.2.2.2.2.2.2.1) (x.1.2.2.2.2.2.2.2.1) (x.1.2.2.2.2.2.2.2.2.1) (x.1.2.2.2.2.2.2.2.2.2.1) (x.1.2.2.2.2.2.2.2.2.2.2) (x.2.1.1) (x.2.1.2) (x.2.2) y),
  (58, .fx (.one (.int .i64)) .bool fun x y => times_May_R x y),
  (64, .body Tryd.f64),
  (65, .body Tryd.f65),
  (66, .body Tryd.f66),
  (67, .body Tryd.f67),
  (68, .fx (.cons (.agg (.cons (.int .u32) (.cons .bool (.cons (.int .u64) (.cons (.int .u64) (.cons (.int .u64) (.cons (.int .u64) (.cons (.int .u64) (.cons (.int .i64) (.cons (.int .i64) (.cons (.int .i64) (.one (.int .i64))))))))))))) (.one (.int .i64))) (.int .i64) fun x y => due_next_R (x.1.1) (x.1.2.1) (x.1.2.2.1) (x.1.2.2.2.1) (x.1.2.2.2.2.1) (x.1.2.2.2.2.2.1) (x.1.2.2.2.2.2.2.1) (x.1.2.2.2.2.2.2.2.1) (x.1.2.2.2.2.2.2.2.2.1) (x.1.2.2.2.2.2.2.2.2.2.1) (x.1.2.2.2.2.2.2.2.2.2.2) (x.2) y)], gsT, eqT⟩
theorem q30_fns : FnsOk Tryd.prog q30_cx := Fns_assoc ⟨table_CheckRow_ok, body_ent Tryd.func30 (by kernel_rfl) (by kernel_rfl), job_Latest_ok, job_Times_ok, times_May_ok, body_ent Tryd.func64 (by kernel_rfl) (by kernel_rfl), body_ent Tryd.func65 (by kernel_rfl) (by kernel_rfl), body_ent Tryd.func66 (by kernel_rfl) (by kernel_rfl), body_ent Tryd.func67 (by kernel_rfl) (by kernel_rfl), due_next_ok, trivial⟩
def due_Occur_R (a0 : Int) (a1 : Bool) (a2 : Int) (a3 : Int) (a4 : Int) (a5 : Int) (a6 : Int) (a7 : Int) (a8 : Int) (a9 : Int) (a10 : Int) (a11 : Bool) (a12 : Int) (a13 : Int) (a14 : Int) (a15 : Int) (a16 : List Int) (a17 : Int) (y : List Int × Int) : Prop :=
  (∃ y1 : Int, (table_CheckRow_R a0 a1 a2 a3 a4 a5 a6 a7 a8 a9 a10 a11 a12 a13 a14 a15 a16 y1) ∧ (br (y1 != 0) (([], (-1)) = y) (∃ y2 : Bool, (times_May_R a17 y2) ∧ (br (!y2) (([], (-1)) = y) (br (a12 == (-1)) (([], a12) = y) (br (decide (a12 > a17)) (([], a12) = y) (req ((decide (0 ≤ a9)) && (decide (a9 < 3))) (br ((((offN 0 a9 1) : Nat) : Int) == 0) (∃ y3 : Int × Bool, (job_Latest_R a0 a1 a2 a3 a4 a5 a6 a7 a8 a9 a10 a17 y3) ∧ (br (!(y3.2)) (∃ y4 : Int, (due_next_R a0 a1 a2 a3 a4 a5 a6 a7 a8 a9 a10 a17 y4) ∧ (([], y4) = y)) (br (decide ((IntKind.wrap .i64 (a17 - (y3.1))) > 59)) (∃ y6 : Int, (due_next_R a0 a1 a2 a3 a4 a5 a6 a7 a8 a9 a10 a17 y6) ∧ (([], y6) = y)) (∃ y8 : Int, (due_next_R a0 a1 a2 a3 a4 a5 a6 a7 a8 a9 a10 a17 y8) ∧ (([(y3.1)], y8) = y))))) (br ((((offN 0 a9 1) : Nat) : Int) == 1) (∃ y26 : Int × Bool, (job_Latest_R a0 a1 a2 a3 a4 a5 a6 a7 a8 a9 a10 a17 y26) ∧ (br (!(y26.2)) (∃ y27 : Int, (due_next_R a0 a1 a2 a3 a4 a5 a6 a7 a8 a9 a10 a17 y27) ∧ (([], y27) = y)) (br (decide ((IntKind.wrap .i64 (a17 - (y26.1))) > a17)) (∃ y29 : Int, (due_next_R a0 a1 a2 a3 a4 a5 a6 a7 a8 a9 a10 a17 y29) ∧ (([], y29) = y)) (∃ y31 : Int, (due_next_R a0 a1 a2 a3 a4 a5 a6 a7 a8 a9 a10 a17 y31) ∧ (([(y26.1)], y31) = y))))) (br ((((offN 0 a9 1) : Nat) : Int) == 2) (∃ y49 : List Int × Int, (job_Times_R a0 a1 a2 a3 a4 a5 a6 a7 a8 a9 a10 (IntKind.wrap .i64 (a12 - 1)) a17 4 y49) ∧ (∃ y51 : Int, (due_next_R a0 a1 a2 a3 a4 a5 a6 a7 a8 a9 a10 a17 y51) ∧ (((y49.1), y51) = y))) False))))))))))
end Go.Proofs.YtiffoefhadgdnaaDoor
