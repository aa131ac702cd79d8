/- What Go functions come to (printed by gb.py). -/
import Derived.Test.YtiffoefhadgdnaaDoorGx
namespace Go.Proofs.YtiffoefhadgdnaaDoor
open Go Go.B Go.RowKit
set_option linter.unusedVariables false
set_option linter.unusedSimpArgs false
set_option maxRecDepth 100000
attribute [local irreducible] Go.B.acall Go.B.acode
noncomputable def q7_cx : Cx := ⟨tyT, [(7, .body Tryd.f7),
  (12, .fx (.one .none) .bool fun x y => curfewlaw08_wakes_R y),
  (17, .fx (.cons (.agg (.cons (.int .u64) (.cons (.int .u64) (.cons (.int .u64) (.cons (.int .u64) (.one (.int .u64))))))) (.one (.int .i64))) (.tup (.cons (.int .i64) (.one .bool))) fun x y => next_Next_R (x.1.1) (x.1.2.1) (x.1.2.2.1) (x.1.2.2.2.1) (x.1.2.2.2.2) (x.2) y),
  (18, .fx (.cons (.agg (.cons (.int .u64) (.cons (.int .u64) (.cons (.int .u64) (.cons (.int .u64) (.one (.int .u64))))))) (.one (.int .i64))) (.tup (.cons (.int .i64) (.one .bool))) fun x y => next_Last_R (x.1.1) (x.1.2.1) (x.1.2.2.1) (x.1.2.2.2.1) (x.1.2.2.2.2) (x.2) y),
  (24, .fx (.cons (.agg (.cons (.int .u64) (.cons (.int .u64) (.cons (.int .u64) (.cons (.int .u64) (.one (.int .u64))))))) (.one (.int .i64))) .bool fun x y => cron_At_R (x.1.1) (x.1.2.1) (x.1.2.2.1) (x.1.2.2.2.1) (x.1.2.2.2.2) (x.2) y)], gsT, eqT⟩
theorem q7_fns : FnsOk Tryd.prog q7_cx := Fns_assoc ⟨body_ent Tryd.func7 (by kernel_rfl) (by kernel_rfl), curfewlaw08_wakes_ok, next_Next_ok, next_Last_ok, cron_At_ok, trivial⟩
noncomputable def q7_0_body : Code := subC [1, 1, 1, 1, 1, 1, 1, 1, 1, 0, 1, 0, 0] (bodyOf Tryd.f7)
abbrev curfewlaw08_NextTight_l0_Z : Type := Int × Int × Int × Int × Int × Int × Int × Int × Int × List Int × Int × Int
abbrev curfewlaw08_NextTight_l0_Y : Type := (Unit) ⊕ (Unit)
abbrev q7_0_C : Type := Unit
abbrev q7_0_Q : Type := Unit
noncomputable def q7_0_st (z6 : curfewlaw08_NextTight_l0_Z) (z6q : q7_0_Q) (z6c : q7_0_C) : S := ⟨[(3, (V.ptr 0 0)), (11, (vi (z6.2.2.2.2.2.1))), (12, (vi (z6.2.2.2.2.2.2.1))), (13, (vi (z6.2.2.2.2.2.2.2.1))), (14, (vi (z6.2.2.2.2.2.2.2.2.1))), (78, (V.sl (.int .u64) (z6.2.2.2.2.2.2.2.2.2.1) none)), (79, (vi (z6.2.2.2.2.2.2.2.2.2.2.1))), (80, (vi (z6.2.2.2.2.2.2.2.2.2.2.2)))], [(Blk.cells [(vu (z6.1)), (vu (z6.2.1)), (vu (z6.2.2.1)), (vu (z6.2.2.2.1)), (vu (z6.2.2.2.2.1))])], []⟩
def q7_0_K (K : Ret → S → Prop) (z6 : curfewlaw08_NextTight_l0_Z) (z6q : q7_0_Q) (y7 : curfewlaw08_NextTight_l0_Y) : Prop := sume (fun y7 => K (.exit 0) ⟨[], [(Blk.cells [(vu (z6.1)), (vu (z6.2.1)), (vu (z6.2.2.1)), (vu (z6.2.2.2.1)), (vu (z6.2.2.2.2.1))])], []⟩) (fun y7 => K .ret ⟨[(6, (vb false))], [(Blk.cells [(vu (z6.1)), (vu (z6.2.1)), (vu (z6.2.2.1)), (vu (z6.2.2.2.1)), (vu (z6.2.2.2.2.1))])], []⟩) y7
def curfewlaw08_NextTight_l0 : Nat → curfewlaw08_NextTight_l0_Z → curfewlaw08_NextTight_l0_Y → Prop
  | 0, _, _ => False
  | k + 1, z6, y7_ => (br (decide ((z6.2.2.2.2.2.2.2.2.2.2.2) < (z6.2.2.2.2.2.2.2.2.2.2.1))) (req ((decide (0 ≤ (z6.2.2.2.2.2.2.2.2.2.2.2))) && (decide ((z6.2.2.2.2.2.2.2.2.2.2.2) < (((List.length (z6.2.2.2.2.2.2.2.2.2.1)) : Nat) : Int)))) (br ((z6.2.2.2.2.2.2.2.2.2.2.2) == 20) ((Sum.inl ()) = y7_) (br (decide ((z6.2.2.2.2.2.1) ≤ (z6.2.2.2.2.2.2.1))) (req (!((IntKind.wrap .u64 (IntKind.wrap .i64 ((IntKind.wrap .i64 ((z6.2.2.2.2.2.2.1) - (z6.2.2.2.2.2.1))) + 1))) == 0)) (∃ y8 : Bool, (cron_At_R (z6.1) (z6.2.1) (z6.2.2.1) (z6.2.2.2.1) (z6.2.2.2.2.1) (IntKind.wrap .i64 ((z6.2.2.2.2.2.1) + (IntKind.wrap .i64 (Int.tmod (List.getD (z6.2.2.2.2.2.2.2.2.2.1) (Int.toNat (z6.2.2.2.2.2.2.2.2.2.2.2)) 0) (IntKind.wrap .u64 (IntKind.wrap .i64 ((IntKind.wrap .i64 ((z6.2.2.2.2.2.2.1) - (z6.2.2.2.2.2.1))) + 1))))))) y8) ∧ (br y8 ((Sum.inr ()) = y7_) (br (decide ((z6.2.2.2.2.2.2.2.1) ≤ (z6.2.2.2.2.2.2.2.2.1))) (req (!((IntKind.wrap .u64 (IntKind.wrap .i64 ((IntKind.wrap .i64 ((z6.2.2.2.2.2.2.2.2.1) - (z6.2.2.2.2.2.2.2.1))) + 1))) == 0)) (∃ y9 : Bool, (cron_At_R (z6.1) (z6.2.1) (z6.2.2.1) (z6.2.2.2.1) (z6.2.2.2.2.1) (IntKind.wrap .i64 ((z6.2.2.2.2.2.2.2.1) + (IntKind.wrap .i64 (Int.tmod (List.getD (z6.2.2.2.2.2.2.2.2.2.1) (Int.toNat (z6.2.2.2.2.2.2.2.2.2.2.2)) 0) (IntKind.wrap .u64 (IntKind.wrap .i64 ((IntKind.wrap .i64 ((z6.2.2.2.2.2.2.2.2.1) - (z6.2.2.2.2.2.2.2.1))) + 1))))))) y9) ∧ (br y9 ((Sum.inr ()) = y7_) (curfewlaw08_NextTight_l0 k ((z6.1), (z6.2.1), (z6.2.2.1), (z6.2.2.2.1), (z6.2.2.2.2.1), (z6.2.2.2.2.2.1), (z6.2.2.2.2.2.2.1), (z6.2.2.2.2.2.2.2.1), (z6.2.2.2.2.2.2.2.2.1), (z6.2.2.2.2.2.2.2.2.2.1), (z6.2.2.2.2.2.2.2.2.2.2.1), (IntKind.wrap .i64 ((z6.2.2.2.2.2.2.2.2.2.2.2) + 1))) y7_)))) (curfewlaw08_NextTight_l0 k ((z6.1), (z6.2.1), (z6.2.2.1), (z6.2.2.2.1), (z6.2.2.2.2.1), (z6.2.2.2.2.2.1), (z6.2.2.2.2.2.2.1), (z6.2.2.2.2.2.2.2.1), (z6.2.2.2.2.2.2.2.2.1), (z6.2.2.2.2.2.2.2.2.2.1), (z6.2.2.2.2.2.2.2.2.2.2.1), (IntKind.wrap .i64 ((z6.2.2.2.2.2.2.2.2.2.2.2) + 1))) y7_))))) (br (decide ((z6.2.2.2.2.2.2.2.1) ≤ (z6.2.2.2.2.2.2.2.2.1))) (req (!((IntKind.wrap .u64 (IntKind.wrap .i64 ((IntKind.wrap .i64 ((z6.2.2.2.2.2.2.2.2.1) - (z6.2.2.2.2.2.2.2.1))) + 1))) == 0)) (∃ y10 : Bool, (cron_At_R (z6.1) (z6.2.1) (z6.2.2.1) (z6.2.2.2.1) (z6.2.2.2.2.1) (IntKind.wrap .i64 ((z6.2.2.2.2.2.2.2.1) + (IntKind.wrap .i64 (Int.tmod (List.getD (z6.2.2.2.2.2.2.2.2.2.1) (Int.toNat (z6.2.2.2.2.2.2.2.2.2.2.2)) 0) (IntKind.wrap .u64 (IntKind.wrap .i64 ((IntKind.wrap .i64 ((z6.2.2.2.2.2.2.2.2.1) - (z6.2.2.2.2.2.2.2.1))) + 1))))))) y10) ∧ (br y10 ((Sum.inr ()) = y7_) (curfewlaw08_NextTight_l0 k ((z6.1), (z6.2.1), (z6.2.2.1), (z6.2.2.2.1), (z6.2.2.2.2.1), (z6.2.2.2.2.2.1), (z6.2.2.2.2.2.2.1), (z6.2.2.2.2.2.2.2.1), (z6.2.2.2.2.2.2.2.2.1), (z6.2.2.2.2.2.2.2.2.2.1), (z6.2.2.2.2.2.2.2.2.2.2.1), (IntKind.wrap .i64 ((z6.2.2.2.2.2.2.2.2.2.2.2) + 1))) y7_)))) (curfewlaw08_NextTight_l0 k ((z6.1), (z6.2.1), (z6.2.2.1), (z6.2.2.2.1), (z6.2.2.2.2.1), (z6.2.2.2.2.2.1), (z6.2.2.2.2.2.2.1), (z6.2.2.2.2.2.2.2.1), (z6.2.2.2.2.2.2.2.2.1), (z6.2.2.2.2.2.2.2.2.2.1), (z6.2.2.2.2.2.2.2.2.2.2.1), (IntKind.wrap .i64 ((z6.2.2.2.2.2.2.2.2.2.2.2) + 1))) y7_))))) ((Sum.inl ()) = y7_))
def curfewlaw08_NextTight_l0_L (z : curfewlaw08_NextTight_l0_Z) (y : curfewlaw08_NextTight_l0_Y) : Prop := ∃ k, curfewlaw08_NextTight_l0 k z y
noncomputable def q7_0_lp : Lp := .auto none q7_0_body (loopG 1 q7_0_st (fun z y => ∃ k, curfewlaw08_NextTight_l0 k z y) q7_0_K)
noncomputable def q7_lp : Nat → FuncId → Nat → Nat → Lp := lpTab [(7, 14, 1, 0, q7_0_lp)]
theorem q7_0_round (n : Nat) (z6x0 : Int) (z6x1 : Int) (z6x2 : Int) (z6x3 : Int) (z6x4 : Int) (z6x5 : Int) (z6x6 : Int) (z6x7 : Int) (z6x8 : Int) (z6x9 : List Int) (z6x10 : Int) (z6x11 : Int) (K : Ret → S → Prop) (next : S → Prop) : acode q7_cx 7 (acall q7_cx okT q7_lp (n + 0)) (okT 7) (q7_lp (n + 0) 7) none q7_0_body (iterK (wkK 1 K) next) (q7_0_st (z6x0, z6x1, z6x2, z6x3, z6x4, z6x5, z6x6, z6x7, z6x8, z6x9, z6x10, z6x11) () ()) =
    (req true (br (decide (z6x11 < z6x10)) (req true (req ((decide (0 ≤ z6x11)) && (decide (z6x11 < (((List.length z6x9) : Nat) : Int)))) (rqn 5 (br (z6x11 == 20) (wkK 1 K (.exit 0) ⟨[(3, (V.ptr 0 0)), (11, (vi z6x5)), (12, (vi z6x6)), (13, (vi z6x7)), (14, (vi z6x8)), (78, (V.sl (.int .u64) z6x9 none)), (79, (vi z6x10)), (80, (vi z6x11)), (81, (vb (decide (z6x11 < z6x10)))), (15, (vi z6x11)), (16, (vu (List.getD z6x9 (Int.toNat z6x11) 0))), (86, (vb (z6x11 == 20)))], [(Blk.cells [(vu z6x0), (vu z6x1), (vu z6x2), (vu z6x3), (vu z6x4)])], []⟩) (rqn 5 (br (decide (z6x5 ≤ z6x6)) (rqn 8 (req (!((IntKind.wrap .u64 (wI ((wI (z6x6 - z6x5)) + 1))) == 0)) (rqn 3 (∃ y8 : Bool, (cron_At_R z6x0 z6x1 z6x2 z6x3 z6x4 (wI (z6x5 + (wI (Int.tmod (List.getD z6x9 (Int.toNat z6x11) 0) (IntKind.wrap .u64 (wI ((wI (z6x6 - z6x5)) + 1))))))) y8) ∧ (rqn 2 (br y8 (rqn 2 (wkK 1 K .ret ⟨[(3, (V.ptr 0 0)), (11, (vi z6x5)), (12, (vi z6x6)), (13, (vi z6x7)), (14, (vi z6x8)), (78, (V.sl (.int .u64) z6x9 none)), (79, (vi z6x10)), (80, (vi z6x11)), (81, (vb (decide (z6x11 < z6x10)))), (15, (vi z6x11)), (16, (vu (List.getD z6x9 (Int.toNat z6x11) 0))), (86, (vb (z6x11 == 20))), (122, (vb true)), (6, (vb false))], [(Blk.cells [(vu z6x0), (vu z6x1), (vu z6x2), (vu z6x3), (vu z6x4)])], []⟩)) (rqn 4 (br (decide (z6x7 ≤ z6x8)) (rqn 8 (req (!((IntKind.wrap .u64 (wI ((wI (z6x8 - z6x7)) + 1))) == 0)) (rqn 3 (∃ y9 : Bool, (cron_At_R z6x0 z6x1 z6x2 z6x3 z6x4 (wI (z6x7 + (wI (Int.tmod (List.getD z6x9 (Int.toNat z6x11) 0) (IntKind.wrap .u64 (wI ((wI (z6x8 - z6x7)) + 1))))))) y9) ∧ (rqn 2 (br y9 (req true (wkK 1 K .ret ⟨[(3, (V.ptr 0 0)), (11, (vi z6x5)), (12, (vi z6x6)), (13, (vi z6x7)), (14, (vi z6x8)), (78, (V.sl (.int .u64) z6x9 none)), (79, (vi z6x10)), (80, (vi z6x11)), (81, (vb (decide (z6x11 < z6x10)))), (15, (vi z6x11)), (16, (vu (List.getD z6x9 (Int.toNat z6x11) 0))), (86, (vb (z6x11 == 20))), (122, (vb y9)), (6, (vb false))], [(Blk.cells [(vu z6x0), (vu z6x1), (vu z6x2), (vu z6x3), (vu z6x4)])], []⟩)) (rqn 2 (next ⟨[(3, (V.ptr 0 0)), (11, (vi z6x5)), (12, (vi z6x6)), (13, (vi z6x7)), (14, (vi z6x8)), (78, (V.sl (.int .u64) z6x9 none)), (79, (vi z6x10)), (80, (vi (wI (z6x11 + 1)))), (81, (vb (decide (z6x11 < z6x10)))), (15, (vi z6x11)), (16, (vu (List.getD z6x9 (Int.toNat z6x11) 0))), (86, (vb (z6x11 == 20))), (122, (vb y9))], [(Blk.cells [(vu z6x0), (vu z6x1), (vu z6x2), (vu z6x3), (vu z6x4)])], []⟩)))))))) (rqn 4 (next ⟨[(3, (V.ptr 0 0)), (11, (vi z6x5)), (12, (vi z6x6)), (13, (vi z6x7)), (14, (vi z6x8)), (78, (V.sl (.int .u64) z6x9 none)), (79, (vi z6x10)), (80, (vi (wI (z6x11 + 1)))), (81, (vb (decide (z6x11 < z6x10)))), (15, (vi z6x11)), (16, (vu (List.getD z6x9 (Int.toNat z6x11) 0))), (86, (vb (z6x11 == 20))), (122, (vb false))], [(Blk.cells [(vu z6x0), (vu z6x1), (vu z6x2), (vu z6x3), (vu z6x4)])], []⟩)))))))))) (rqn 6 (br (decide (z6x7 ≤ z6x8)) (rqn 8 (req (!((IntKind.wrap .u64 (wI ((wI (z6x8 - z6x7)) + 1))) == 0)) (rqn 3 (∃ y10 : Bool, (cron_At_R z6x0 z6x1 z6x2 z6x3 z6x4 (wI (z6x7 + (wI (Int.tmod (List.getD z6x9 (Int.toNat z6x11) 0) (IntKind.wrap .u64 (wI ((wI (z6x8 - z6x7)) + 1))))))) y10) ∧ (rqn 2 (br y10 (req true (wkK 1 K .ret ⟨[(3, (V.ptr 0 0)), (11, (vi z6x5)), (12, (vi z6x6)), (13, (vi z6x7)), (14, (vi z6x8)), (78, (V.sl (.int .u64) z6x9 none)), (79, (vi z6x10)), (80, (vi z6x11)), (81, (vb (decide (z6x11 < z6x10)))), (15, (vi z6x11)), (16, (vu (List.getD z6x9 (Int.toNat z6x11) 0))), (86, (vb (z6x11 == 20))), (122, (vb y10)), (6, (vb false))], [(Blk.cells [(vu z6x0), (vu z6x1), (vu z6x2), (vu z6x3), (vu z6x4)])], []⟩)) (rqn 2 (next ⟨[(3, (V.ptr 0 0)), (11, (vi z6x5)), (12, (vi z6x6)), (13, (vi z6x7)), (14, (vi z6x8)), (78, (V.sl (.int .u64) z6x9 none)), (79, (vi z6x10)), (80, (vi (wI (z6x11 + 1)))), (81, (vb (decide (z6x11 < z6x10)))), (15, (vi z6x11)), (16, (vu (List.getD z6x9 (Int.toNat z6x11) 0))), (86, (vb (z6x11 == 20))), (122, (vb y10))], [(Blk.cells [(vu z6x0), (vu z6x1), (vu z6x2), (vu z6x3), (vu z6x4)])], []⟩)))))))) (rqn 4 (next ⟨[(3, (V.ptr 0 0)), (11, (vi z6x5)), (12, (vi z6x6)), (13, (vi z6x7)), (14, (vi z6x8)), (78, (V.sl (.int .u64) z6x9 none)), (79, (vi z6x10)), (80, (vi (wI (z6x11 + 1)))), (81, (vb (decide (z6x11 < z6x10)))), (15, (vi z6x11)), (16, (vu (List.getD z6x9 (Int.toNat z6x11) 0))), (86, (vb (z6x11 == 20))), (122, (vb false))], [(Blk.cells [(vu z6x0), (vu z6x1), (vu z6x2), (vu z6x3), (vu z6x4)])], []⟩)))))))))) (wkK 1 K (.exit 0) ⟨[(3, (V.ptr 0 0)), (11, (vi z6x5)), (12, (vi z6x6)), (13, (vi z6x7)), (14, (vi z6x8)), (78, (V.sl (.int .u64) z6x9 none)), (79, (vi z6x10)), (80, (vi z6x11)), (81, (vb (decide (z6x11 < z6x10))))], [(Blk.cells [(vu z6x0), (vu z6x1), (vu z6x2), (vu z6x3), (vu z6x4)])], []⟩))) := by kernel_rfl
theorem q7_0_ok (n : Nat) : Owed q7_cx okT 7 q7_lp (n + 0) q7_0_lp := loop_owed (fun z y h => h) fun k zz qq cc y7_ K h hK next hnext => by
  obtain ⟨z6x0, z6x1, z6x2, z6x3, z6x4, z6x5, z6x6, z6x7, z6x8, z6x9, z6x10, z6x11⟩ := zz
  refine cast (q7_0_round n z6x0 z6x1 z6x2 z6x3 z6x4 z6x5 z6x6 z6x7 z6x8 z6x9 z6x10 z6x11 K next).symm ?_
  simp only [curfewlaw08_NextTight_l0] at h
  refine req_intro rfl ?_
  refine br_both h (fun hb h => ?_) (fun hb h => ?_)
  · refine req_intro rfl ?_
    obtain ⟨q, h⟩ := req_of h
    refine req_intro (band (band_l q) (band_r q)) ?_
    refine rqn_intro 5 ?_
    refine br_both h (fun hb h => ?_) (fun hb h => ?_)
    · subst h
      refine ⟨_, ?_, hK⟩
      exact wk_of (Or.inr ⟨trivial, ⟨Or.inl rfl, trivial⟩, rfl, rfl, rfl⟩)
    · refine rqn_intro 5 ?_
      refine br_both h (fun hb h => ?_) (fun hb h => ?_)
      · refine rqn_intro 8 ?_
        obtain ⟨q, h⟩ := req_of h
        refine req_intro q ?_
        refine rqn_intro 3 ?_
        refine ex_both h fun y8 h => ?_
        refine rqn_intro 2 ?_
        refine br_both h (fun hb h => ?_) (fun hb h => ?_)
        · refine rqn_intro 2 ?_
          subst h
          refine ⟨_, ?_, hK⟩
          exact wk_of (Or.inr ⟨⟨Or.inl rfl, trivial⟩, ⟨Or.inl rfl, trivial⟩, rfl, rfl, rfl⟩)
        · refine rqn_intro 4 ?_
          refine br_both h (fun hb h => ?_) (fun hb h => ?_)
          · refine rqn_intro 8 ?_
            obtain ⟨q, h⟩ := req_of h
            refine req_intro q ?_
            refine rqn_intro 3 ?_
            refine ex_both h fun y9 h => ?_
            refine rqn_intro 2 ?_
            refine br_both h (fun hb h => ?_) (fun hb h => ?_)
            · refine req_intro rfl ?_
              subst h
              refine ⟨_, ?_, hK⟩
              exact wk_of (Or.inr ⟨⟨Or.inl rfl, trivial⟩, ⟨Or.inl rfl, trivial⟩, rfl, rfl, rfl⟩)
            · refine rqn_intro 2 ?_
              exact hnext (z6x0, z6x1, z6x2, z6x3, z6x4, z6x5, z6x6, z6x7, z6x8, z6x9, z6x10, (wI (z6x11 + 1))) _ h hK ⟨(), wk_of (Or.inr ⟨⟨Or.inl rfl, Or.inl rfl, Or.inl rfl, Or.inl rfl, Or.inl rfl, Or.inl rfl, Or.inl rfl, Or.inl rfl, trivial⟩, ⟨Or.inl rfl, trivial⟩, rfl, rfl, rfl⟩)⟩
          · refine rqn_intro 4 ?_
            exact hnext (z6x0, z6x1, z6x2, z6x3, z6x4, z6x5, z6x6, z6x7, z6x8, z6x9, z6x10, (wI (z6x11 + 1))) _ h hK ⟨(), wk_of (Or.inr ⟨⟨Or.inl rfl, Or.inl rfl, Or.inl rfl, Or.inl rfl, Or.inl rfl, Or.inl rfl, Or.inl rfl, Or.inl rfl, trivial⟩, ⟨Or.inl rfl, trivial⟩, rfl, rfl, rfl⟩)⟩
      · refine rqn_intro 6 ?_
        refine br_both h (fun hb h => ?_) (fun hb h => ?_)
        · refine rqn_intro 8 ?_
          obtain ⟨q, h⟩ := req_of h
          refine req_intro q ?_
          refine rqn_intro 3 ?_
          refine ex_both h fun y10 h => ?_
          refine rqn_intro 2 ?_
          refine br_both h (fun hb h => ?_) (fun hb h => ?_)
          · refine req_intro rfl ?_
            subst h
            refine ⟨_, ?_, hK⟩
            exact wk_of (Or.inr ⟨⟨Or.inl rfl, trivial⟩, ⟨Or.inl rfl, trivial⟩, rfl, rfl, rfl⟩)
          · refine rqn_intro 2 ?_
            exact hnext (z6x0, z6x1, z6x2, z6x3, z6x4, z6x5, z6x6, z6x7, z6x8, z6x9, z6x10, (wI (z6x11 + 1))) _ h hK ⟨(), wk_of (Or.inr ⟨⟨Or.inl rfl, Or.inl rfl, Or.inl rfl, Or.inl rfl, Or.inl rfl, Or.inl rfl, Or.inl rfl, Or.inl rfl, trivial⟩, ⟨Or.inl rfl, trivial⟩, rfl, rfl, rfl⟩)⟩
        · refine rqn_intro 4 ?_
          exact hnext (z6x0, z6x1, z6x2, z6x3, z6x4, z6x5, z6x6, z6x7, z6x8, z6x9, z6x10, (wI (z6x11 + 1))) _ h hK ⟨(), wk_of (Or.inr ⟨⟨Or.inl rfl, Or.inl rfl, Or.inl rfl, Or.inl rfl, Or.inl rfl, Or.inl rfl, Or.inl rfl, Or.inl rfl, trivial⟩, ⟨Or.inl rfl, trivial⟩, rfl, rfl, rfl⟩)⟩
  · subst h
    refine ⟨_, ?_, hK⟩
    exact wk_of (Or.inr ⟨trivial, ⟨Or.inl rfl, trivial⟩, rfl, rfl, rfl⟩)
theorem q7_lpok : LpOk q7_cx okT q7_lp := LpOk_tab ⟨q7_0_ok, trivial⟩
def curfewlaw08_NextTight_R (a0 : Int) (a1 : Int) (a2 : Int) (a3 : Int) (a4 : Int) (a5 : Int) (a6 : List Int) (y : Bool) : Prop :=
  (∃ y1 : Bool, (curfewlaw08_wakes_R y1) ∧ (br (!y1) (false = y) (∃ y2 : Int × Bool, (next_Next_R a0 a1 a2 a3 a4 a5 y2) ∧ (∃ y3 : Int × Bool, (next_Last_R a0 a1 a2 a3 a4 a5 y3) ∧ (br (y2.2) (br (decide ((y2.1) ≤ a5)) (false = y) (br (decide ((y2.1) > 253402300799)) (false = y) (∃ y4 : Bool, (cron_At_R a0 a1 a2 a3 a4 (y2.1) y4) ∧ (br (!y4) (false = y) (br (y3.2) (br (decide ((y3.1) > a5)) (false = y) (br (decide ((y3.1) < 0)) (false = y) (∃ y5 : Bool, (cron_At_R a0 a1 a2 a3 a4 (y3.1) y5) ∧ (br (!y5) (false = y) (br (!(y2.2)) (br (!(y3.2)) (∃ y12 : curfewlaw08_NextTight_l0_Y, curfewlaw08_NextTight_l0_L (a0, a1, a2, a3, a4, 1, 0, 1, 0, a6, (((List.length a6) : Nat) : Int), 0) y12 ∧ sume (fun y12 => (true = y)) (fun y12 => (false = y)) y12) (∃ y14 : curfewlaw08_NextTight_l0_Y, curfewlaw08_NextTight_l0_L (a0, a1, a2, a3, a4, 1, 0, (IntKind.wrap .i64 ((y3.1) + 1)), (if 253402300799 < a5 then 253402300799 else a5), a6, (((List.length a6) : Nat) : Int), 0) y14 ∧ sume (fun y14 => (true = y)) (fun y14 => (false = y)) y14)) (br (!(y3.2)) (∃ y16 : curfewlaw08_NextTight_l0_Y, curfewlaw08_NextTight_l0_L (a0, a1, a2, a3, a4, (IntKind.wrap .i64 ((if (-1) > a5 then (-1) else a5) + 1)), (IntKind.wrap .i64 ((y2.1) - 1)), 1, 0, a6, (((List.length a6) : Nat) : Int), 0) y16 ∧ sume (fun y16 => (true = y)) (fun y16 => (false = y)) y16) (∃ y18 : curfewlaw08_NextTight_l0_Y, curfewlaw08_NextTight_l0_L (a0, a1, a2, a3, a4, (IntKind.wrap .i64 ((if (-1) > a5 then (-1) else a5) + 1)), (IntKind.wrap .i64 ((y2.1) - 1)), (IntKind.wrap .i64 ((y3.1) + 1)), (if 253402300799 < a5 then 253402300799 else a5), a6, (((List.length a6) : Nat) : Int), 0) y18 ∧ sume (fun y18 => (true = y)) (fun y18 => (false = y)) y18))))))) (br (!(y2.2)) (br (!(y3.2)) (∃ y20 : curfewlaw08_NextTight_l0_Y, curfewlaw08_NextTight_l0_L (a0, a1, a2, a3, a4, 1, 0, 1, 0, a6, (((List.length a6) : Nat) : Int), 0) y20 ∧ sume (fun y20 => (true = y)) (fun y20 => (false = y)) y20) (∃ y22 : curfewlaw08_NextTight_l0_Y, curfewlaw08_NextTight_l0_L (a0, a1, a2, a3, a4, 1, 0, (IntKind.wrap .i64 ((y3.1) + 1)), (if 253402300799 < a5 then 253402300799 else a5), a6, (((List.length a6) : Nat) : Int), 0) y22 ∧ sume (fun y22 => (true = y)) (fun y22 => (false = y)) y22)) (br (!(y3.2)) (∃ y24 : curfewlaw08_NextTight_l0_Y, curfewlaw08_NextTight_l0_L (a0, a1, a2, a3, a4, (IntKind.wrap .i64 ((if (-1) > a5 then (-1) else a5) + 1)), (IntKind.wrap .i64 ((y2.1) - 1)), 1, 0, a6, (((List.length a6) : Nat) : Int), 0) y24 ∧ sume (fun y24 => (true = y)) (fun y24 => (false = y)) y24) (∃ y26 : curfewlaw08_NextTight_l0_Y, curfewlaw08_NextTight_l0_L (a0, a1, a2, a3, a4, (IntKind.wrap .i64 ((if (-1) > a5 then (-1) else a5) + 1)), (IntKind.wrap .i64 ((y2.1) - 1)), (IntKind.wrap .i64 ((y3.1) + 1)), (if 253402300799 < a5 then 253402300799 else a5), a6, (((List.length a6) : Nat) : Int), 0) y26 ∧ sume (fun y26 => (true = y)) (fun y26 => (false = y)) y26)))))))) (br (y3.2) (br (decide ((y3.1) > a5)) (false = y) (br (decide ((y3.1) < 0)) (false = y) (∃ y27 : Bool, (cron_At_R a0 a1 a2 a3 a4 (y3.1) y27) ∧ (br (!y27) (false = y) (br (!(y2.2)) (br (!(y3.2)) (∃ y29 : curfewlaw08_NextTight_l0_Y, curfewlaw08_NextTight_l0_L (a0, a1, a2, a3, a4, 1, 0, 1, 0, a6, (((List.length a6) : Nat) : Int), 0) y29 ∧ sume (fun y29 => (true = y)) (fun y29 => (false = y)) y29) (∃ y31 : curfewlaw08_NextTight_l0_Y, curfewlaw08_NextTight_l0_L (a0, a1, a2, a3, a4, 1, 0, (IntKind.wrap .i64 ((y3.1) + 1)), (if 253402300799 < a5 then 253402300799 else a5), a6, (((List.length a6) : Nat) : Int), 0) y31 ∧ sume (fun y31 => (true = y)) (fun y31 => (false = y)) y31)) (br (!(y3.2)) (∃ y33 : curfewlaw08_NextTight_l0_Y, curfewlaw08_NextTight_l0_L (a0, a1, a2, a3, a4, (IntKind.wrap .i64 ((if (-1) > a5 then (-1) else a5) + 1)), (IntKind.wrap .i64 ((y2.1) - 1)), 1, 0, a6, (((List.length a6) : Nat) : Int), 0) y33 ∧ sume (fun y33 => (true = y)) (fun y33 => (false = y)) y33) (∃ y35 : curfewlaw08_NextTight_l0_Y, curfewlaw08_NextTight_l0_L (a0, a1, a2, a3, a4, (IntKind.wrap .i64 ((if (-1) > a5 then (-1) else a5) + 1)), (IntKind.wrap .i64 ((y2.1) - 1)), (IntKind.wrap .i64 ((y3.1) + 1)), (if 253402300799 < a5 then 253402300799 else a5), a6, (((List.length a6) : Nat) : Int), 0) y35 ∧ sume (fun y35 => (true = y)) (fun y35 => (false = y)) y35))))))) (br (!(y2.2)) (br (!(y3.2)) (∃ y37 : curfewlaw08_NextTight_l0_Y, curfewlaw08_NextTight_l0_L (a0, a1, a2, a3, a4, 1, 0, 1, 0, a6, (((List.length a6) : Nat) : Int), 0) y37 ∧ sume (fun y37 => (true = y)) (fun y37 => (false = y)) y37) (∃ y39 : curfewlaw08_NextTight_l0_Y, curfewlaw08_NextTight_l0_L (a0, a1, a2, a3, a4, 1, 0, (IntKind.wrap .i64 ((y3.1) + 1)), (if 253402300799 < a5 then 253402300799 else a5), a6, (((List.length a6) : Nat) : Int), 0) y39 ∧ sume (fun y39 => (true = y)) (fun y39 => (false = y)) y39)) (br (!(y3.2)) (∃ y41 : curfewlaw08_NextTight_l0_Y, curfewlaw08_NextTight_l0_L (a0, a1, a2, a3, a4, (IntKind.wrap .i64 ((if (-1) > a5 then (-1) else a5) + 1)), (IntKind.wrap .i64 ((y2.1) - 1)), 1, 0, a6, (((List.length a6) : Nat) : Int), 0) y41 ∧ sume (fun y41 => (true = y)) (fun y41 => (false = y)) y41) (∃ y43 : curfewlaw08_NextTight_l0_Y, curfewlaw08_NextTight_l0_L (a0, a1, a2, a3, a4, (IntKind.wrap .i64 ((if (-1) > a5 then (-1) else a5) + 1)), (IntKind.wrap .i64 ((y2.1) - 1)), (IntKind.wrap .i64 ((y3.1) + 1)), (if 253402300799 < a5 then 253402300799 else a5), a6, (((List.length a6) : Nat) : Int), 0) y43 ∧ sume (fun y43 => (true = y)) (fun y43 => (false = y)) y43)))))))))
theorem q7_tree (a0 : Int) (a1 : Int) (a2 : Int) (a3 : Int) (a4 : Int) (a5 : Int) (a6 : List Int) (y : Bool) : acall q7_cx okT q7_lp 60 (.fn 7 [] []) [(V.agg [(V.int .u64 a0), (V.int .u64 a1), (V.int .u64 a2), (V.int .u64 a3), (V.int .u64 a4)]), (V.int .i64 a5), (V.sl (.int .u64) a6 none)] [] (leafK .bool y) =
    (rqn 2 (∃ y1 : Bool, (curfewlaw08_wakes_R y1) ∧ (req true (br (!y1) (req true (req true (false = y))) (rqn 3 (∃ y2 : Int × Bool, (next_Next_R a0 a1 a2 a3 a4 a5 y2) ∧ (rqn 8 (∃ y3 : Int × Bool, (next_Last_R a0 a1 a2 a3 a4 a5 y3) ∧ (rqn 7 (br (y2.2) (rqn 4 (br (decide ((y2.1) ≤ a5)) (rqn 7 (req true (false = y))) (rqn 4 (br (decide ((y2.1) > 253402300799)) (rqn 5 (req true (false = y))) (rqn 3 (∃ y4 : Bool, (cron_At_R a0 a1 a2 a3 a4 (y2.1) y4) ∧ (rqn 4 (br (!y4) (rqn 2 (req true (false = y))) (rqn 2 (br (y3.2) (rqn 4 (br (decide ((y3.1) > a5)) (rqn 6 (req true (false = y))) (rqn 4 (br (decide ((y3.1) < 0)) (rqn 4 (req true (false = y))) (rqn 3 (∃ y5 : Bool, (cron_At_R a0 a1 a2 a3 a4 (y3.1) y5) ∧ (rqn 4 (br (!y5) (req true (req true (false = y))) (rqn 9 (br (!(y2.2)) (rqn 10 (br (!(y3.2)) (rqn 5 (((none : Option Nat) = (none : Option Nat)) ∧ (q7_0_body = q7_0_body) ∧ ∃ z11 : curfewlaw08_NextTight_l0_Z, ∃ z11q : q7_0_Q, ∃ y12 : curfewlaw08_NextTight_l0_Y, (1 = 1) ∧ (∃ zc : q7_0_C, wk 1 ⟨[(0, (V.agg [(vu a0), (vu a1), (vu a2), (vu a3), (vu a4)])), (1, (vi a5)), (2, (V.sl (.int .u64) a6 none)), (3, (V.ptr 0 0)), (6, (vb false)), (18, (vb (!y1))), (7, (vi (y2.1))), (8, (vb (y2.2))), (9, (vi (y3.1))), (10, (vb (y3.2))), (64, (vb (!y5))), (11, (vi 1)), (12, (vi 0)), (71, (vb (!(y2.2)))), (13, (vi 1)), (14, (vi 0)), (77, (vb (!(y3.2)))), (78, (V.sl (.int .u64) a6 none)), (79, (vi (((List.length a6) : Nat) : Int))), (80, (vi 0))], [(Blk.cells [(vu a0), (vu a1), (vu a2), (vu a3), (vu a4)])], []⟩ (q7_0_st z11 z11q zc)) ∧ (∃ k, curfewlaw08_NextTight_l0 k z11 y12) ∧ sume (fun y12 => (req true (req true (true = y)))) (fun y12 => (req true (false = y))) y12)) (rqn 3 (((none : Option Nat) = (none : Option Nat)) ∧ (q7_0_body = q7_0_body) ∧ ∃ z13 : curfewlaw08_NextTight_l0_Z, ∃ z13q : q7_0_Q, ∃ y14 : curfewlaw08_NextTight_l0_Y, (1 = 1) ∧ (∃ zc : q7_0_C, wk 1 ⟨[(0, (V.agg [(vu a0), (vu a1), (vu a2), (vu a3), (vu a4)])), (1, (vi a5)), (2, (V.sl (.int .u64) a6 none)), (3, (V.ptr 0 0)), (6, (vb false)), (18, (vb (!y1))), (7, (vi (y2.1))), (8, (vb (y2.2))), (9, (vi (y3.1))), (10, (vb (y3.2))), (64, (vb (!y5))), (11, (vi 1)), (12, (vi 0)), (71, (vb (!(y2.2)))), (13, (vi (wI ((y3.1) + 1)))), (14, (vi (if 253402300799 < a5 then 253402300799 else a5))), (77, (vb (!(y3.2)))), (78, (V.sl (.int .u64) a6 none)), (79, (vi (((List.length a6) : Nat) : Int))), (80, (vi 0))], [(Blk.cells [(vu a0), (vu a1), (vu a2), (vu a3), (vu a4)])], []⟩ (q7_0_st z13 z13q zc)) ∧ (∃ k, curfewlaw08_NextTight_l0 k z13 y14) ∧ sume (fun y14 => (req true (req true (true = y)))) (fun y14 => (req true (false = y))) y14)))) (rqn 8 (br (!(y3.2)) (rqn 5 (((none : Option Nat) = (none : Option Nat)) ∧ (q7_0_body = q7_0_body) ∧ ∃ z15 : curfewlaw08_NextTight_l0_Z, ∃ z15q : q7_0_Q, ∃ y16 : curfewlaw08_NextTight_l0_Y, (1 = 1) ∧ (∃ zc : q7_0_C, wk 1 ⟨[(0, (V.agg [(vu a0), (vu a1), (vu a2), (vu a3), (vu a4)])), (1, (vi a5)), (2, (V.sl (.int .u64) a6 none)), (3, (V.ptr 0 0)), (6, (vb false)), (18, (vb (!y1))), (7, (vi (y2.1))), (8, (vb (y2.2))), (9, (vi (y3.1))), (10, (vb (y3.2))), (64, (vb (!y5))), (11, (vi (wI ((if (-1) > a5 then (-1) else a5) + 1)))), (12, (vi (wI ((y2.1) - 1)))), (71, (vb (!(y2.2)))), (13, (vi 1)), (14, (vi 0)), (77, (vb (!(y3.2)))), (78, (V.sl (.int .u64) a6 none)), (79, (vi (((List.length a6) : Nat) : Int))), (80, (vi 0))], [(Blk.cells [(vu a0), (vu a1), (vu a2), (vu a3), (vu a4)])], []⟩ (q7_0_st z15 z15q zc)) ∧ (∃ k, curfewlaw08_NextTight_l0 k z15 y16) ∧ sume (fun y16 => (req true (req true (true = y)))) (fun y16 => (req true (false = y))) y16)) (rqn 3 (((none : Option Nat) = (none : Option Nat)) ∧ (q7_0_body = q7_0_body) ∧ ∃ z17 : curfewlaw08_NextTight_l0_Z, ∃ z17q : q7_0_Q, ∃ y18 : curfewlaw08_NextTight_l0_Y, (1 = 1) ∧ (∃ zc : q7_0_C, wk 1 ⟨[(0, (V.agg [(vu a0), (vu a1), (vu a2), (vu a3), (vu a4)])), (1, (vi a5)), (2, (V.sl (.int .u64) a6 none)), (3, (V.ptr 0 0)), (6, (vb false)), (18, (vb (!y1))), (7, (vi (y2.1))), (8, (vb (y2.2))), (9, (vi (y3.1))), (10, (vb (y3.2))), (64, (vb (!y5))), (11, (vi (wI ((if (-1) > a5 then (-1) else a5) + 1)))), (12, (vi (wI ((y2.1) - 1)))), (71, (vb (!(y2.2)))), (13, (vi (wI ((y3.1) + 1)))), (14, (vi (if 253402300799 < a5 then 253402300799 else a5))), (77, (vb (!(y3.2)))), (78, (V.sl (.int .u64) a6 none)), (79, (vi (((List.length a6) : Nat) : Int))), (80, (vi 0))], [(Blk.cells [(vu a0), (vu a1), (vu a2), (vu a3), (vu a4)])], []⟩ (q7_0_st z17 z17q zc)) ∧ (∃ k, curfewlaw08_NextTight_l0 k z17 y18) ∧ sume (fun y18 => (req true (req true (true = y)))) (fun y18 => (req true (false = y))) y18)))))))))))))) (rqn 11 (br (!(y2.2)) (rqn 10 (br (!(y3.2)) (rqn 5 (((none : Option Nat) = (none : Option Nat)) ∧ (q7_0_body = q7_0_body) ∧ ∃ z19 : curfewlaw08_NextTight_l0_Z, ∃ z19q : q7_0_Q, ∃ y20 : curfewlaw08_NextTight_l0_Y, (1 = 1) ∧ (∃ zc : q7_0_C, wk 1 ⟨[(0, (V.agg [(vu a0), (vu a1), (vu a2), (vu a3), (vu a4)])), (1, (vi a5)), (2, (V.sl (.int .u64) a6 none)), (3, (V.ptr 0 0)), (6, (vb false)), (18, (vb (!y1))), (7, (vi (y2.1))), (8, (vb (y2.2))), (9, (vi (y3.1))), (10, (vb (y3.2))), (64, (vb false)), (11, (vi 1)), (12, (vi 0)), (71, (vb (!(y2.2)))), (13, (vi 1)), (14, (vi 0)), (77, (vb (!(y3.2)))), (78, (V.sl (.int .u64) a6 none)), (79, (vi (((List.length a6) : Nat) : Int))), (80, (vi 0))], [(Blk.cells [(vu a0), (vu a1), (vu a2), (vu a3), (vu a4)])], []⟩ (q7_0_st z19 z19q zc)) ∧ (∃ k, curfewlaw08_NextTight_l0 k z19 y20) ∧ sume (fun y20 => (req true (req true (true = y)))) (fun y20 => (req true (false = y))) y20)) (rqn 3 (((none : Option Nat) = (none : Option Nat)) ∧ (q7_0_body = q7_0_body) ∧ ∃ z21 : curfewlaw08_NextTight_l0_Z, ∃ z21q : q7_0_Q, ∃ y22 : curfewlaw08_NextTight_l0_Y, (1 = 1) ∧ (∃ zc : q7_0_C, wk 1 ⟨[(0, (V.agg [(vu a0), (vu a1), (vu a2), (vu a3), (vu a4)])), (1, (vi a5)), (2, (V.sl (.int .u64) a6 none)), (3, (V.ptr 0 0)), (6, (vb false)), (18, (vb (!y1))), (7, (vi (y2.1))), (8, (vb (y2.2))), (9, (vi (y3.1))), (10, (vb (y3.2))), (64, (vb false)), (11, (vi 1)), (12, (vi 0)), (71, (vb (!(y2.2)))), (13, (vi (wI ((y3.1) + 1)))), (14, (vi (if 253402300799 < a5 then 253402300799 else a5))), (77, (vb (!(y3.2)))), (78, (V.sl (.int .u64) a6 none)), (79, (vi (((List.length a6) : Nat) : Int))), (80, (vi 0))], [(Blk.cells [(vu a0), (vu a1), (vu a2), (vu a3), (vu a4)])], []⟩ (q7_0_st z21 z21q zc)) ∧ (∃ k, curfewlaw08_NextTight_l0 k z21 y22) ∧ sume (fun y22 => (req true (req true (true = y)))) (fun y22 => (req true (false = y))) y22)))) (rqn 8 (br (!(y3.2)) (rqn 5 (((none : Option Nat) = (none : Option Nat)) ∧ (q7_0_body = q7_0_body) ∧ ∃ z23 : curfewlaw08_NextTight_l0_Z, ∃ z23q : q7_0_Q, ∃ y24 : curfewlaw08_NextTight_l0_Y, (1 = 1) ∧ (∃ zc : q7_0_C, wk 1 ⟨[(0, (V.agg [(vu a0), (vu a1), (vu a2), (vu a3), (vu a4)])), (1, (vi a5)), (2, (V.sl (.int .u64) a6 none)), (3, (V.ptr 0 0)), (6, (vb false)), (18, (vb (!y1))), (7, (vi (y2.1))), (8, (vb (y2.2))), (9, (vi (y3.1))), (10, (vb (y3.2))), (64, (vb false)), (11, (vi (wI ((if (-1) > a5 then (-1) else a5) + 1)))), (12, (vi (wI ((y2.1) - 1)))), (71, (vb (!(y2.2)))), (13, (vi 1)), (14, (vi 0)), (77, (vb (!(y3.2)))), (78, (V.sl (.int .u64) a6 none)), (79, (vi (((List.length a6) : Nat) : Int))), (80, (vi 0))], [(Blk.cells [(vu a0), (vu a1), (vu a2), (vu a3), (vu a4)])], []⟩ (q7_0_st z23 z23q zc)) ∧ (∃ k, curfewlaw08_NextTight_l0 k z23 y24) ∧ sume (fun y24 => (req true (req true (true = y)))) (fun y24 => (req true (false = y))) y24)) (rqn 3 (((none : Option Nat) = (none : Option Nat)) ∧ (q7_0_body = q7_0_body) ∧ ∃ z25 : curfewlaw08_NextTight_l0_Z, ∃ z25q : q7_0_Q, ∃ y26 : curfewlaw08_NextTight_l0_Y, (1 = 1) ∧ (∃ zc : q7_0_C, wk 1 ⟨[(0, (V.agg [(vu a0), (vu a1), (vu a2), (vu a3), (vu a4)])), (1, (vi a5)), (2, (V.sl (.int .u64) a6 none)), (3, (V.ptr 0 0)), (6, (vb false)), (18, (vb (!y1))), (7, (vi (y2.1))), (8, (vb (y2.2))), (9, (vi (y3.1))), (10, (vb (y3.2))), (64, (vb false)), (11, (vi (wI ((if (-1) > a5 then (-1) else a5) + 1)))), (12, (vi (wI ((y2.1) - 1)))), (71, (vb (!(y2.2)))), (13, (vi (wI ((y3.1) + 1)))), (14, (vi (if 253402300799 < a5 then 253402300799 else a5))), (77, (vb (!(y3.2)))), (78, (V.sl (.int .u64) a6 none)), (79, (vi (((List.length a6) : Nat) : Int))), (80, (vi 0))], [(Blk.cells [(vu a0), (vu a1), (vu a2), (vu a3), (vu a4)])], []⟩ (q7_0_st z25 z25q zc)) ∧ (∃ k, curfewlaw08_NextTight_l0 k z25 y26) ∧ sume (fun y26 => (req true (req true (true = y)))) (fun y26 => (req true (false = y))) y26)))))))))))))))) (rqn 4 (br (y3.2) (rqn 4 (br (decide ((y3.1) > a5)) (rqn 6 (req true (false = y))) (rqn 4 (br (decide ((y3.1) < 0)) (rqn 4 (req true (false = y))) (rqn 3 (∃ y27 : Bool, (cron_At_R a0 a1 a2 a3 a4 (y3.1) y27) ∧ (rqn 4 (br (!y27) (req true (req true (false = y))) (rqn 9 (br (!(y2.2)) (rqn 10 (br (!(y3.2)) (rqn 5 (((none : Option Nat) = (none : Option Nat)) ∧ (q7_0_body = q7_0_body) ∧ ∃ z28 : curfewlaw08_NextTight_l0_Z, ∃ z28q : q7_0_Q, ∃ y29 : curfewlaw08_NextTight_l0_Y, (1 = 1) ∧ (∃ zc : q7_0_C, wk 1 ⟨[(0, (V.agg [(vu a0), (vu a1), (vu a2), (vu a3), (vu a4)])), (1, (vi a5)), (2, (V.sl (.int .u64) a6 none)), (3, (V.ptr 0 0)), (6, (vb false)), (18, (vb (!y1))), (7, (vi (y2.1))), (8, (vb (y2.2))), (9, (vi (y3.1))), (10, (vb (y3.2))), (64, (vb (!y27))), (11, (vi 1)), (12, (vi 0)), (71, (vb (!(y2.2)))), (13, (vi 1)), (14, (vi 0)), (77, (vb (!(y3.2)))), (78, (V.sl (.int .u64) a6 none)), (79, (vi (((List.length a6) : Nat) : Int))), (80, (vi 0))], [(Blk.cells [(vu a0), (vu a1), (vu a2), (vu a3), (vu a4)])], []⟩ (q7_0_st z28 z28q zc)) ∧ (∃ k, curfewlaw08_NextTight_l0 k z28 y29) ∧ sume (fun y29 => (req true (req true (true = y)))) (fun y29 => (req true (false = y))) y29)) (rqn 3 (((none : Option Nat) = (none : Option Nat)) ∧ (q7_0_body = q7_0_body) ∧ ∃ z30 : curfewlaw08_NextTight_l0_Z, ∃ z30q : q7_0_Q, ∃ y31 : curfewlaw08_NextTight_l0_Y, (1 = 1) ∧ (∃ zc : q7_0_C, wk 1 ⟨[(0, (V.agg [(vu a0), (vu a1), (vu a2), (vu a3), (vu a4)])), (1, (vi a5)), (2, (V.sl (.int .u64) a6 none)), (3, (V.ptr 0 0)), (6, (vb false)), (18, (vb (!y1))), (7, (vi (y2.1))), (8, (vb (y2.2))), (9, (vi (y3.1))), (10, (vb (y3.2))), (64, (vb (!y27))), (11, (vi 1)), (12, (vi 0)), (71, (vb (!(y2.2)))), (13, (vi (wI ((y3.1) + 1)))), (14, (vi (if 253402300799 < a5 then 253402300799 else a5))), (77, (vb (!(y3.2)))), (78, (V.sl (.int .u64) a6 none)), (79, (vi (((List.length a6) : Nat) : Int))), (80, (vi 0))], [(Blk.cells [(vu a0), (vu a1), (vu a2), (vu a3), (vu a4)])], []⟩ (q7_0_st z30 z30q zc)) ∧ (∃ k, curfewlaw08_NextTight_l0 k z30 y31) ∧ sume (fun y31 => (req true (req true (true = y)))) (fun y31 => (req true (false = y))) y31)))) (rqn 8 (br (!(y3.2)) (rqn 5 (((none : Option Nat) = (none : Option Nat)) ∧ (q7_0_body = q7_0_body) ∧ ∃ z32 : curfewlaw08_NextTight_l0_Z, ∃ z32q : q7_0_Q, ∃ y33 : curfewlaw08_NextTight_l0_Y, (1 = 1) ∧ (∃ zc : q7_0_C, wk 1 ⟨[(0, (V.agg [(vu a0), (vu a1), (vu a2), (vu a3), (vu a4)])), (1, (vi a5)), (2, (V.sl (.int .u64) a6 none)), (3, (V.ptr 0 0)), (6, (vb false)), (18, (vb (!y1))), (7, (vi (y2.1))), (8, (vb (y2.2))), (9, (vi (y3.1))), (10, (vb (y3.2))), (64, (vb (!y27))), (11, (vi (wI ((if (-1) > a5 then (-1) else a5) + 1)))), (12, (vi (wI ((y2.1) - 1)))), (71, (vb (!(y2.2)))), (13, (vi 1)), (14, (vi 0)), (77, (vb (!(y3.2)))), (78, (V.sl (.int .u64) a6 none)), (79, (vi (((List.length a6) : Nat) : Int))), (80, (vi 0))], [(Blk.cells [(vu a0), (vu a1), (vu a2), (vu a3), (vu a4)])], []⟩ (q7_0_st z32 z32q zc)) ∧ (∃ k, curfewlaw08_NextTight_l0 k z32 y33) ∧ sume (fun y33 => (req true (req true (true = y)))) (fun y33 => (req true (false = y))) y33)) (rqn 3 (((none : Option Nat) = (none : Option Nat)) ∧ (q7_0_body = q7_0_body) ∧ ∃ z34 : curfewlaw08_NextTight_l0_Z, ∃ z34q : q7_0_Q, ∃ y35 : curfewlaw08_NextTight_l0_Y, (1 = 1) ∧ (∃ zc : q7_0_C, wk 1 ⟨[(0, (V.agg [(vu a0), (vu a1), (vu a2), (vu a3), (vu a4)])), (1, (vi a5)), (2, (V.sl (.int .u64) a6 none)), (3, (V.ptr 0 0)), (6, (vb false)), (18, (vb (!y1))), (7, (vi (y2.1))), (8, (vb (y2.2))), (9, (vi (y3.1))), (10, (vb (y3.2))), (64, (vb (!y27))), (11, (vi (wI ((if (-1) > a5 then (-1) else a5) + 1)))), (12, (vi (wI ((y2.1) - 1)))), (71, (vb (!(y2.2)))), (13, (vi (wI ((y3.1) + 1)))), (14, (vi (if 253402300799 < a5 then 253402300799 else a5))), (77, (vb (!(y3.2)))), (78, (V.sl (.int .u64) a6 none)), (79, (vi (((List.length a6) : Nat) : Int))), (80, (vi 0))], [(Blk.cells [(vu a0), (vu a1), (vu a2), (vu a3), (vu a4)])], []⟩ (q7_0_st z34 z34q zc)) ∧ (∃ k, curfewlaw08_NextTight_l0 k z34 y35) ∧ sume (fun y35 => (req true (req true (true = y)))) (fun y35 => (req true (false = y))) y35)))))))))))))) (rqn 11 (br (!(y2.2)) (rqn 10 (br (!(y3.2)) (rqn 5 (((none : Option Nat) = (none : Option Nat)) ∧ (q7_0_body = q7_0_body) ∧ ∃ z36 : curfewlaw08_NextTight_l0_Z, ∃ z36q : q7_0_Q, ∃ y37 : curfewlaw08_NextTight_l0_Y, (1 = 1) ∧ (∃ zc : q7_0_C, wk 1 ⟨[(0, (V.agg [(vu a0), (vu a1), (vu a2), (vu a3), (vu a4)])), (1, (vi a5)), (2, (V.sl (.int .u64) a6 none)), (3, (V.ptr 0 0)), (6, (vb false)), (18, (vb (!y1))), (7, (vi (y2.1))), (8, (vb (y2.2))), (9, (vi (y3.1))), (10, (vb (y3.2))), (64, (vb false)), (11, (vi 1)), (12, (vi 0)), (71, (vb (!(y2.2)))), (13, (vi 1)), (14, (vi 0)), (77, (vb (!(y3.2)))), (78, (V.sl (.int .u64) a6 none)), (79, (vi (((List.length a6) : Nat) : Int))), (80, (vi 0))], [(Blk.cells [(vu a0), (vu a1), (vu a2), (vu a3), (vu a4)])], []⟩ (q7_0_st z36 z36q zc)) ∧ (∃ k, curfewlaw08_NextTight_l0 k z36 y37) ∧ sume (fun y37 => (req true (req true (true = y)))) (fun y37 => (req true (false = y))) y37)) (rqn 3 (((none : Option Nat) = (none : Option Nat)) ∧ (q7_0_body = q7_0_body) ∧ ∃ z38 : curfewlaw08_NextTight_l0_Z, ∃ z38q : q7_0_Q, ∃ y39 : curfewlaw08_NextTight_l0_Y, (1 = 1) ∧ (∃ zc : q7_0_C, wk 1 ⟨[(0, (V.agg [(vu a0), (vu a1), (vu a2), (vu a3), (vu a4)])), (1, (vi a5)), (2, (V.sl (.int .u64) a6 none)), (3, (V.ptr 0 0)), (6, (vb false)), (18, (vb (!y1))), (7, (vi (y2.1))), (8, (vb (y2.2))), (9, (vi (y3.1))), (10, (vb (y3.2))), (64, (vb false)), (11, (vi 1)), (12, (vi 0)), (71, (vb (!(y2.2)))), (13, (vi (wI ((y3.1) + 1)))), (14, (vi (if 253402300799 < a5 then 253402300799 else a5))), (77, (vb (!(y3.2)))), (78, (V.sl (.int .u64) a6 none)), (79, (vi (((List.length a6) : Nat) : Int))), (80, (vi 0))], [(Blk.cells [(vu a0), (vu a1), (vu a2), (vu a3), (vu a4)])], []⟩ (q7_0_st z38 z38q zc)) ∧ (∃ k, curfewlaw08_NextTight_l0 k z38 y39) ∧ sume (fun y39 => (req true (req true (true = y)))) (fun y39 => (req true (false = y))) y39)))) (rqn 8 (br (!(y3.2)) (rqn 5 (((none : Option Nat) = (none : Option Nat)) ∧ (q7_0_body = q7_0_body) ∧ ∃ z40 : curfewlaw08_NextTight_l0_Z, ∃ z40q : q7_0_Q, ∃ y41 : curfewlaw08_NextTight_l0_Y, (1 = 1) ∧ (∃ zc : q7_0_C, wk 1 ⟨[(0, (V.agg [(vu a0), (vu a1), (vu a2), (vu a3), (vu a4)])), (1, (vi a5)), (2, (V.sl (.int .u64) a6 none)), (3, (V.ptr 0 0)), (6, (vb false)), (18, (vb (!y1))), (7, (vi (y2.1))), (8, (vb (y2.2))), (9, (vi (y3.1))), (10, (vb (y3.2))), (64, (vb false)), (11, (vi (wI ((if (-1) > a5 then (-1) else a5) + 1)))), (12, (vi (wI ((y2.1) - 1)))), (71, (vb (!(y2.2)))), (13, (vi 1)), (14, (vi 0)), (77, (vb (!(y3.2)))), (78, (V.sl (.int .u64) a6 none)), (79, (vi (((List.length a6) : Nat) : Int))), (80, (vi 0))], [(Blk.cells [(vu a0), (vu a1), (vu a2), (vu a3), (vu a4)])], []⟩ (q7_0_st z40 z40q zc)) ∧ (∃ k, curfewlaw08_NextTight_l0 k z40 y41) ∧ sume (fun y41 => (req true (req true (true = y)))) (fun y41 => (req true (false = y))) y41)) (rqn 3 (((none : Option Nat) = (none : Option Nat)) ∧ (q7_0_body = q7_0_body) ∧ ∃ z42 : curfewlaw08_NextTight_l0_Z, ∃ z42q : q7_0_Q, ∃ y43 : curfewlaw08_NextTight_l0_Y, (1 = 1) ∧ (∃ zc : q7_0_C, wk 1 ⟨[(0, (V.agg [(vu a0), (vu a1), (vu a2), (vu a3), (vu a4)])), (1, (vi a5)), (2, (V.sl (.int .u64) a6 none)), (3, (V.ptr 0 0)), (6, (vb false)), (18, (vb (!y1))), (7, (vi (y2.1))), (8, (vb (y2.2))), (9, (vi (y3.1))), (10, (vb (y3.2))), (64, (vb false)), (11, (vi (wI ((if (-1) > a5 then (-1) else a5) + 1)))), (12, (vi (wI ((y2.1) - 1)))), (71, (vb (!(y2.2)))), (13, (vi (wI ((y3.1) + 1)))), (14, (vi (if 253402300799 < a5 then 253402300799 else a5))), (77, (vb (!(y3.2)))), (78, (V.sl (.int .u64) a6 none)), (79, (vi (((List.length a6) : Nat) : Int))), (80, (vi 0))], [(Blk.cells [(vu a0), (vu a1), (vu a2), (vu a3), (vu a4)])], []⟩ (q7_0_st z42 z42q zc)) ∧ (∃ k, curfewlaw08_NextTight_l0 k z42 y43) ∧ sume (fun y43 => (req true (req true (true = y)))) (fun y43 => (req true (false = y))) y43)))))))))))))))))) := by kernel_rfl
theorem q7_run (a0 : Int) (a1 : Int) (a2 : Int) (a3 : Int) (a4 : Int) (a5 : Int) (a6 : List Int) (y : Bool) (h : curfewlaw08_NextTight_R a0 a1 a2 a3 a4 a5 a6 y) : acall q7_cx okT q7_lp 60 (.fn 7 [] []) [(V.agg [(V.int .u64 a0), (V.int .u64 a1), (V.int .u64 a2), (V.int .u64 a3), (V.int .u64 a4)]), (V.int .i64 a5), (V.sl (.int .u64) a6 none)] [] (leafK .bool y) := by
  refine cast (q7_tree a0 a1 a2 a3 a4 a5 a6 y).symm ?_
  unfold curfewlaw08_NextTight_R at h
  refine rqn_intro 2 ?_
  refine ex_both h fun y1 h => ?_
  refine req_intro rfl ?_
  refine br_both h (fun hb h => ?_) (fun hb h => ?_)
  · refine req_intro rfl ?_
    exact req_intro rfl h
  · refine rqn_intro 3 ?_
    refine ex_both h fun y2 h => ?_
    refine rqn_intro 8 ?_
    refine ex_both h fun y3 h => ?_
    refine rqn_intro 7 ?_
    refine br_both h (fun hb h => ?_) (fun hb h => ?_)
    · refine rqn_intro 4 ?_
      refine br_both h (fun hb h => ?_) (fun hb h => ?_)
      · refine rqn_intro 7 ?_
        exact req_intro rfl h
      · refine rqn_intro 4 ?_
        refine br_both h (fun hb h => ?_) (fun hb h => ?_)
        · refine rqn_intro 5 ?_
          exact req_intro rfl h
        · refine rqn_intro 3 ?_
          refine ex_both h fun y4 h => ?_
          refine rqn_intro 4 ?_
          refine br_both h (fun hb h => ?_) (fun hb h => ?_)
          · refine rqn_intro 2 ?_
            exact req_intro rfl h
          · refine rqn_intro 2 ?_
            refine br_both h (fun hb h => ?_) (fun hb h => ?_)
            · refine rqn_intro 4 ?_
              refine br_both h (fun hb h => ?_) (fun hb h => ?_)
              · refine rqn_intro 6 ?_
                exact req_intro rfl h
              · refine rqn_intro 4 ?_
                refine br_both h (fun hb h => ?_) (fun hb h => ?_)
                · refine rqn_intro 4 ?_
                  exact req_intro rfl h
                · refine rqn_intro 3 ?_
                  refine ex_both h fun y5 h => ?_
                  refine rqn_intro 4 ?_
                  refine br_both h (fun hb h => ?_) (fun hb h => ?_)
                  · refine req_intro rfl ?_
                    exact req_intro rfl h
                  · refine rqn_intro 9 ?_
                    refine br_both h (fun hb h => ?_) (fun hb h => ?_)
                    · refine rqn_intro 10 ?_
                      refine br_both h (fun hb h => ?_) (fun hb h => ?_)
                      · refine rqn_intro 5 ?_
                        obtain ⟨y12, ry12, h⟩ := h
                        refine ⟨rfl, rfl, (a0, a1, a2, a3, a4, 1, 0, 1, 0, a6, (((List.length a6) : Nat) : Int), 0), (), y12, rfl, ⟨(), wk_of (Or.inr ⟨⟨Or.inl rfl, Or.inl rfl, Or.inl rfl, Or.inl rfl, Or.inl rfl, Or.inl rfl, Or.inl rfl, Or.inl rfl, trivial⟩, ⟨Or.inl rfl, trivial⟩, rfl, rfl, rfl⟩)⟩, ry12, ?_⟩
                        refine sume_both h (fun y12 h => ?_) (fun y12 h => ?_)
                        · refine req_intro rfl ?_
                          exact req_intro rfl h
                        · exact req_intro rfl h
                      · refine rqn_intro 3 ?_
                        obtain ⟨y14, ry14, h⟩ := h
                        refine ⟨rfl, rfl, (a0, a1, a2, a3, a4, 1, 0, (wI ((y3.1) + 1)), (if 253402300799 < a5 then 253402300799 else a5), a6, (((List.length a6) : Nat) : Int), 0), (), y14, rfl, ⟨(), wk_of (Or.inr ⟨⟨Or.inl rfl, Or.inl rfl, Or.inl rfl, Or.inl rfl, Or.inl rfl, Or.inl rfl, Or.inl rfl, Or.inl rfl, trivial⟩, ⟨Or.inl rfl, trivial⟩, rfl, rfl, rfl⟩)⟩, ry14, ?_⟩
                        refine sume_both h (fun y14 h => ?_) (fun y14 h => ?_)
                        · refine req_intro rfl ?_
                          exact req_intro rfl h
                        · exact req_intro rfl h
                    · refine rqn_intro 8 ?_
                      refine br_both h (fun hb h => ?_) (fun hb h => ?_)
                      · refine rqn_intro 5 ?_
                        obtain ⟨y16, ry16, h⟩ := h
                        refine ⟨rfl, rfl, (a0, a1, a2, a3, a4, (wI ((if (-1) > a5 then (-1) else a5) + 1)), (wI ((y2.1) - 1)), 1, 0, a6, (((List.length a6) : Nat) : Int), 0), (), y16, rfl, ⟨(), wk_of (Or.inr ⟨⟨Or.inl rfl, Or.inl rfl, Or.inl rfl, Or.inl rfl, Or.inl rfl, Or.inl rfl, Or.inl rfl, Or.inl rfl, trivial⟩, ⟨Or.inl rfl, trivial⟩, rfl, rfl, rfl⟩)⟩, ry16, ?_⟩
                        refine sume_both h (fun y16 h => ?_) (fun y16 h => ?_)
                        · refine req_intro rfl ?_
                          exact req_intro rfl h
                        · exact req_intro rfl h
                      · refine rqn_intro 3 ?_
                        obtain ⟨y18, ry18, h⟩ := h
                        refine ⟨rfl, rfl, (a0, a1, a2, a3, a4, (wI ((if (-1) > a5 then (-1) else a5) + 1)), (wI ((y2.1) - 1)), (wI ((y3.1) + 1)), (if 253402300799 < a5 then 253402300799 else a5), a6, (((List.length a6) : Nat) : Int), 0), (), y18, rfl, ⟨(), wk_of (Or.inr ⟨⟨Or.inl rfl, Or.inl rfl, Or.inl rfl, Or.inl rfl, Or.inl rfl, Or.inl rfl, Or.inl rfl, Or.inl rfl, trivial⟩, ⟨Or.inl rfl, trivial⟩, rfl, rfl, rfl⟩)⟩, ry18, ?_⟩
                        refine sume_both h (fun y18 h => ?_) (fun y18 h => ?_)
                        · refine req_intro rfl ?_
                          exact req_intro rfl h
                        · exact req_intro rfl h
            · refine rqn_intro 11 ?_
              refine br_both h (fun hb h => ?_) (fun hb h => ?_)
              · refine rqn_intro 10 ?_
                refine br_both h (fun hb h => ?_) (fun hb h => ?_)
                · refine rqn_intro 5 ?_
                  obtain ⟨y20, ry20, h⟩ := h
                  refine ⟨rfl, rfl, (a0, a1, a2, a3, a4, 1, 0, 1, 0, a6, (((List.length a6) : Nat) : Int), 0), (), y20, rfl, ⟨(), wk_of (Or.inr ⟨⟨Or.inl rfl, Or.inl rfl, Or.inl rfl, Or.inl rfl, Or.inl rfl, Or.inl rfl, Or.inl rfl, Or.inl rfl, trivial⟩, ⟨Or.inl rfl, trivial⟩, rfl, rfl, rfl⟩)⟩, ry20, ?_⟩
                  refine sume_both h (fun y20 h => ?_) (fun y20 h => ?_)
                  · refine req_intro rfl ?_
                    exact req_intro rfl h
                  · exact req_intro rfl h
                · refine rqn_intro 3 ?_
                  obtain ⟨y22, ry22, h⟩ := h
                  refine ⟨rfl, rfl, (a0, a1, a2, a3, a4, 1, 0, (wI ((y3.1) + 1)), (if 253402300799 < a5 then 253402300799 else a5), a6, (((List.length a6) : Nat) : Int), 0), (), y22, rfl, ⟨(), wk_of (Or.inr ⟨⟨Or.inl rfl, Or.inl rfl, Or.inl rfl, Or.inl rfl, Or.inl rfl, Or.inl rfl, Or.inl rfl, Or.inl rfl, trivial⟩, ⟨Or.inl rfl, trivial⟩, rfl, rfl, rfl⟩)⟩, ry22, ?_⟩
                  refine sume_both h (fun y22 h => ?_) (fun y22 h => ?_)
                  · refine req_intro rfl ?_
                    exact req_intro rfl h
                  · exact req_intro rfl h
              · refine rqn_intro 8 ?_
                refine br_both h (fun hb h => ?_) (fun hb h => ?_)
                · refine rqn_intro 5 ?_
                  obtain ⟨y24, ry24, h⟩ := h
                  refine ⟨rfl, rfl, (a0, a1, a2, a3, a4, (wI ((if (-1) > a5 then (-1) else a5) + 1)), (wI ((y2.1) - 1)), 1, 0, a6, (((List.length a6) : Nat) : Int), 0), (), y24, rfl, ⟨(), wk_of (Or.inr ⟨⟨Or.inl rfl, Or.inl rfl, Or.inl rfl, Or.inl rfl, Or.inl rfl, Or.inl rfl, Or.inl rfl, Or.inl rfl, trivial⟩, ⟨Or.inl rfl, trivial⟩, rfl, rfl, rfl⟩)⟩, ry24, ?_⟩
                  refine sume_both h (fun y24 h => ?_) (fun y24 h => ?_)
                  · refine req_intro rfl ?_
                    exact req_intro rfl h
                  · exact req_intro rfl h
                · refine rqn_intro 3 ?_
                  obtain ⟨y26, ry26, h⟩ := h
                  refine ⟨rfl, rfl, (a0, a1, a2, a3, a4, (wI ((if (-1) > a5 then (-1) else a5) + 1)), (wI ((y2.1) - 1)), (wI ((y3.1) + 1)), (if 253402300799 < a5 then 253402300799 else a5), a6, (((List.length a6) : Nat) : Int), 0), (), y26, rfl, ⟨(), wk_of (Or.inr ⟨⟨Or.inl rfl, Or.inl rfl, Or.inl rfl, Or.inl rfl, Or.inl rfl, Or.inl rfl, Or.inl rfl, Or.inl rfl, trivial⟩, ⟨Or.inl rfl, trivial⟩, rfl, rfl, rfl⟩)⟩, ry26, ?_⟩
                  refine sume_both h (fun y26 h => ?_) (fun y26 h => ?_)
                  · refine req_intro rfl ?_
                    exact req_intro rfl h
                  · exact req_intro rfl h
    · refine rqn_intro 4 ?_
      refine br_both h (fun hb h => ?_) (fun hb h => ?_)
      · refine rqn_intro 4 ?_
        refine br_both h (fun hb h => ?_) (fun hb h => ?_)
        · refine rqn_intro 6 ?_
          exact req_intro rfl h
        · refine rqn_intro 4 ?_
          refine br_both h (fun hb h => ?_) (fun hb h => ?_)
          · refine rqn_intro 4 ?_
            exact req_intro rfl h
          · refine rqn_intro 3 ?_
            refine ex_both h fun y27 h => ?_
            refine rqn_intro 4 ?_
            refine br_both h (fun hb h => ?_) (fun hb h => ?_)
            · refine req_intro rfl ?_
              exact req_intro rfl h
            · refine rqn_intro 9 ?_
              refine br_both h (fun hb h => ?_) (fun hb h => ?_)
              · refine rqn_intro 10 ?_
                refine br_both h (fun hb h => ?_) (fun hb h => ?_)
                · refine rqn_intro 5 ?_
                  obtain ⟨y29, ry29, h⟩ := h
                  refine ⟨rfl, rfl, (a0, a1, a2, a3, a4, 1, 0, 1, 0, a6, (((List.length a6) : Nat) : Int), 0), (), y29, rfl, ⟨(), wk_of (Or.inr ⟨⟨Or.inl rfl, Or.inl rfl, Or.inl rfl, Or.inl rfl, Or.inl rfl, Or.inl rfl, Or.inl rfl, Or.inl rfl, trivial⟩, ⟨Or.inl rfl, trivial⟩, rfl, rfl, rfl⟩)⟩, ry29, ?_⟩
                  refine sume_both h (fun y29 h => ?_) (fun y29 h => ?_)
                  · refine req_intro rfl ?_
                    exact req_intro rfl h
                  · exact req_intro rfl h
                · refine rqn_intro 3 ?_
                  obtain ⟨y31, ry31, h⟩ := h
                  refine ⟨rfl, rfl, (a0, a1, a2, a3, a4, 1, 0, (wI ((y3.1) + 1)), (if 253402300799 < a5 then 253402300799 else a5), a6, (((List.length a6) : Nat) : Int), 0), (), y31, rfl, ⟨(), wk_of (Or.inr ⟨⟨Or.inl rfl, Or.inl rfl, Or.inl rfl, Or.inl rfl, Or.inl rfl, Or.inl rfl, Or.inl rfl, Or.inl rfl, trivial⟩, ⟨Or.inl rfl, trivial⟩, rfl, rfl, rfl⟩)⟩, ry31, ?_⟩
                  refine sume_both h (fun y31 h => ?_) (fun y31 h => ?_)
                  · refine req_intro rfl ?_
                    exact req_intro rfl h
                  · exact req_intro rfl h
              · refine rqn_intro 8 ?_
                refine br_both h (fun hb h => ?_) (fun hb h => ?_)
                · refine rqn_intro 5 ?_
                  obtain ⟨y33, ry33, h⟩ := h
                  refine ⟨rfl, rfl, (a0, a1, a2, a3, a4, (wI ((if (-1) > a5 then (-1) else a5) + 1)), (wI ((y2.1) - 1)), 1, 0, a6, (((List.length a6) : Nat) : Int), 0), (), y33, rfl, ⟨(), wk_of (Or.inr ⟨⟨Or.inl rfl, Or.inl rfl, Or.inl rfl, Or.inl rfl, Or.inl rfl, Or.inl rfl, Or.inl rfl, Or.inl rfl, trivial⟩, ⟨Or.inl rfl, trivial⟩, rfl, rfl, rfl⟩)⟩, ry33, ?_⟩
                  refine sume_both h (fun y33 h => ?_) (fun y33 h => ?_)
                  · refine req_intro rfl ?_
                    exact req_intro rfl h
                  · exact req_intro rfl h
                · refine rqn_intro 3 ?_
                  obtain ⟨y35, ry35, h⟩ := h
                  refine ⟨rfl, rfl, (a0, a1, a2, a3, a4, (wI ((if (-1) > a5 then (-1) else a5) + 1)), (wI ((y2.1) - 1)), (wI ((y3.1) + 1)), (if 253402300799 < a5 then 253402300799 else a5), a6, (((List.length a6) : Nat) : Int), 0), (), y35, rfl, ⟨(), wk_of (Or.inr ⟨⟨Or.inl rfl, Or.inl rfl, Or.inl rfl, Or.inl rfl, Or.inl rfl, Or.inl rfl, Or.inl rfl, Or.inl rfl, trivial⟩, ⟨Or.inl rfl, trivial⟩, rfl, rfl, rfl⟩)⟩, ry35, ?_⟩
                  refine sume_both h (fun y35 h => ?_) (fun y35 h => ?_)
                  · refine req_intro rfl ?_
                    exact req_intro rfl h
                  · exact req_intro rfl h
      · refine rqn_intro 11 ?_
        refine br_both h (fun hb h => ?_) (fun hb h => ?_)
        · refine rqn_intro 10 ?_
          refine br_both h (fun hb h => ?_) (fun hb h => ?_)
          · refine rqn_intro 5 ?_
            obtain ⟨y37, ry37, h⟩ := h
            refine ⟨rfl, rfl, (a0, a1, a2, a3, a4, 1, 0, 1, 0, a6, (((List.length a6) : Nat) : Int), 0), (), y37, rfl, ⟨(), wk_of (Or.inr ⟨⟨Or.inl rfl, Or.inl rfl, Or.inl rfl, Or.inl rfl, Or.inl rfl, Or.inl rfl, Or.inl rfl, Or.inl rfl, trivial⟩, ⟨Or.inl rfl, trivial⟩, rfl, rfl, rfl⟩)⟩, ry37, ?_⟩
            refine sume_both h (fun y37 h => ?_) (fun y37 h => ?_)
            · refine req_intro rfl ?_
              exact req_intro rfl h
            · exact req_intro rfl h
          · refine rqn_intro 3 ?_
            obtain ⟨y39, ry39, h⟩ := h
            refine ⟨rfl, rfl, (a0, a1, a2, a3, a4, 1, 0, (wI ((y3.1) + 1)), (if 253402300799 < a5 then 253402300799 else a5), a6, (((List.length a6) : Nat) : Int), 0), (), y39, rfl, ⟨(), wk_of (Or.inr ⟨⟨Or.inl rfl, Or.inl rfl, Or.inl rfl, Or.inl rfl, Or.inl rfl, Or.inl rfl, Or.inl rfl, Or.inl rfl, trivial⟩, ⟨Or.inl rfl, trivial⟩, rfl, rfl, rfl⟩)⟩, ry39, ?_⟩
            refine sume_both h (fun y39 h => ?_) (fun y39 h => ?_)
            · refine req_intro rfl ?_
              exact req_intro rfl h
            · exact req_intro rfl h
        · refine rqn_intro 8 ?_
          refine br_both h (fun hb h => ?_) (fun hb h => ?_)
          · refine rqn_intro 5 ?_
            obtain ⟨y41, ry41, h⟩ := h
            refine ⟨rfl, rfl, (a0, a1, a2, a3, a4, (wI ((if (-1) > a5 then (-1) else a5) + 1)), (wI ((y2.1) - 1)), 1, 0, a6, (((List.length a6) : Nat) : Int), 0), (), y41, rfl, ⟨(), wk_of (Or.inr ⟨⟨Or.inl rfl, Or.inl rfl, Or.inl rfl, Or.inl rfl, Or.inl rfl, Or.inl rfl, Or.inl rfl, Or.inl rfl, trivial⟩, ⟨Or.inl rfl, trivial⟩, rfl, rfl, rfl⟩)⟩, ry41, ?_⟩
            refine sume_both h (fun y41 h => ?_) (fun y41 h => ?_)
            · refine req_intro rfl ?_
              exact req_intro rfl h
            · exact req_intro rfl h
          · refine rqn_intro 3 ?_
            obtain ⟨y43, ry43, h⟩ := h
            refine ⟨rfl, rfl, (a0, a1, a2, a3, a4, (wI ((if (-1) > a5 then (-1) else a5) + 1)), (wI ((y2.1) - 1)), (wI ((y3.1) + 1)), (if 253402300799 < a5 then 253402300799 else a5), a6, (((List.length a6) : Nat) : Int), 0), (), y43, rfl, ⟨(), wk_of (Or.inr ⟨⟨Or.inl rfl, Or.inl rfl, Or.inl rfl, Or.inl rfl, Or.inl rfl, Or.inl rfl, Or.inl rfl, Or.inl rfl, trivial⟩, ⟨Or.inl rfl, trivial⟩, rfl, rfl, rfl⟩)⟩, ry43, ?_⟩
            refine sume_both h (fun y43 h => ?_) (fun y43 h => ?_)
            · refine req_intro rfl ?_
              exact req_intro rfl h
            · exact req_intro rfl h
theorem curfewlaw08_NextTight_ok : FxOk Tryd.prog gsT 7 (.cons (.agg (.cons (.int .u64) (.cons (.int .u64) (.cons (.int .u64) (.cons (.int .u64) (.one (.int .u64))))))) (.cons (.int .i64) (.one (.sl (.int .u64))))) .bool fun x y => curfewlaw08_NextTight_R (x.1.1) (x.1.2.1) (x.1.2.2.1) (x.1.2.2.2.1) (x.1.2.2.2.2) (x.2.1) (x.2.2) y := fx_of (c := q7_cx) (ty_ok rfl) (eq_ok rfl) q7_fns follows_ok (ok := okT) (lp := q7_lp) (n := 60) q7_lpok (enters Tryd.func7 (by kernel_rfl) rfl) (fun y => ⟨_, rfl⟩) fun x y h => q7_run _ _ _ _ _ _ _ y h
end Go.Proofs.YtiffoefhadgdnaaDoor
