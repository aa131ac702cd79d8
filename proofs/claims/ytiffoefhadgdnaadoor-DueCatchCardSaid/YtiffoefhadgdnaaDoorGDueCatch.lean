/- What Go functions come to (printed by gb.py). -/
import Derived.Test.YtiffoefhadgdnaaDoorGx
namespace Go.Proofs.YtiffoefhadgdnaaDoor
open Go Go.B Go.RowKit
set_option linter.unusedVariables false
set_option linter.unusedSimpArgs false
set_option maxRecDepth 100000
attribute [local irreducible] Go.B.acall Go.B.acode
noncomputable def q9_cx : Cx := ⟨tyT, [(9, .body Tryd.f9),
  (25, .fx (.one .none) .bool fun x y => curfewlaw13_wakes_R y),
  (26, .fx (.one (.agg (.cons (.int .u32) (.cons .bool (.cons (.int .u64) (.cons (.int .u64) (.cons (.int .u64) (.cons (.int .u64) (.cons (.int .u64) (.cons (.int .i64) (.cons (.int .i64) (.cons (.int .i64) (.cons (.int .i64) (.cons .bool (.cons (.int .i64) (.cons (.int .u64) (.cons (.int .i64) (.cons (.int .i64) (.one (.sl (.int .i64))))))))))))))))))))) (.agg (.cons (.int .u32) (.cons .bool (.cons (.int .u64) (.cons (.int .u64) (.cons (.int .u64) (.cons (.int .u64) (.cons (.int .u64) (.cons (.int .i64) (.cons (.int .i64) (.cons (.int .i64) (.cons (.int .i64) (.cons .bool (.cons (.int .i64) (.cons (.int .u64) (.cons (.int .i64) (.cons (.int .i64) (.one (.nw (.int .i64) 2))))))))))))))))))) fun x y => curfewlaw13_own_R (x.1) (x.2.1) (x.2.2.1) (x.2.2.2.1) (x.2.2.2.2.1) (x.2.2.2.2.2.1) (x.2.2.2.2.2.2.1) (x.2.2.2.2.2.2.2.1) (x.2.2.2.2.2.2.2.2.1) (x.2.2.2.2.2.2.2.2.2.1) (x.2.2.2.2.2.2.2.2.2.2.1) (x.2.2.2.2.2.2.2.2.2.2.2.1) (x.2.2.2.2.2.2.2.2.2.2.2.2.1) (x.2.2.2.2.2.2.2.2.2.2.2.2.2.1) (x.2.2.2.2.2.2.2.2.2.2.2.2.2.2.1) (x.2.2.2.2.2.2.2.2.2.2.2.2.2.2.2.1) (x.2.2.2.2.2.2.2.2.2.2.2.2.2.2.2.2) y),
  (27, .fx (.one (.agg (.cons (.int .u32) (.cons .bool (.cons (.int .u64) (.cons (.int .u64) (.cons (.int .u64) (.cons (.int .u64) (.cons (.int .u64) (.cons (.int .i64) (.cons (.int .i64) (.cons (.int .i64) (.cons (.int .i64) (.cons .bool (.cons (.int .i64) (.cons (.int .u64) (.cons (.int .i64) (.cons (.int .i64) (.one (.sl (.int .i64))))))))))))))))))))) (.int .i64) fun x y => table_CheckRow_R (x.1) (x.2.1) (x.2.2.1) (x.2.2.2.1) (x.2.2.2.2.1) (x.2.2.2.2.2.1) (x.2.2.2.2.2.2.1) (x.2.2.2.2.2.2.2.1) (x.2.2.2.2.2.2.2.2.1) (x.2.2.2.2.2.2.2.2.2.1) (x.2.2.2.2.2.2.2.2.2.2.1) (x.2.2.2.2.2.2.2.2.2.2.2.1) (x.2.2.2.2.2.2.2.2.2.2.2.2.1) (x.2.2.2.2.2.2.2.2.2.2.2.2.2.1) (x.2.2.2.2.2.2.2.2.2.2.2.2.2.2.1) (x.2.2.2.2.2.2.2.2.2.2.2.2.2.2.2.1) (x.2.2.2.2.2.2.2.2.2.2.2.2.2.2.2.2) y),
  (30, .fx (.cons (.agg (.cons (.int .u32) (.cons .bool (.cons (.int .u64) (.cons (.int .u64) (.cons (.int .u64) (.cons (.int .u64) (.cons (.int .u64) (.cons (.int .i64) (.cons (.int .i64) (.cons (.int .i64) (.cons (.int .i64) (.cons .bool (.cons (.int .i64) (.cons (.int .u64) (.cons (.int .i64) (.cons (.int .i64) (.one (.sl (.int .i64)))))))))))))))))))) (.one (.int .i64))) (.tup (.cons (.sl (.int .i64)) (.one (.int .i64)))) fun x y => due_Occur_R (x.1.1) (x.1.2.1) (x.1.2.2.1) (x.1.2.2.2.1) (x.1.2.2.2.2.1) (x.1.2.2.2.2.2.1) (x.1.2.2.2.2.2.2.1) (x.1.2.2.2.2.2.2.2.1) (x.1.2.2.2.2.2.2.2.2.1) (x.1.2.2.2.2.2.2.2.2.2.1) (x.1.2.2.2.2.2.2.2.2.2.2.1) (x.1.2.2.2.2.2.2.2.2.2.2.2.1) (x.1.2.2.2.2.2.2.2.2.2.2.2.2.1) (x.1.2.2.2.2.2.2.2.2.2.2.2.2.2.1) (x.1.2.2.2.2.2.2.2.2.2.2.2.2.2.2.1) (x.1.2.2.2.2.2.2.2.2.2.2.2.2.2.2.2.1) (x.1.2.2.2.2.2.2.2.2.2.2.2.2.2.2.2.2) (x.2) y),
  (31, .fx (.cons (.agg (.cons (.int .u32) (.cons .bool (.cons (.int .u64) (.cons (.int .u64) (.cons (.int .u64) (.cons (.int .u64) (.cons (.int .u64) (.cons (.int .i64) (.cons (.int .i64) (.cons (.int .i64) (.one (.int .i64))))))))))))) (.one (.int .i64))) (.tup (.cons (.int .i64) (.one .bool))) fun x y => job_Latest_R (x.1.1) (x.1.2.1) (x.1.2.2.1) (x.1.2.2.2.1) (x.1.2.2.2.2.1) (x.1.2.2.2.2.2.1) (x.1.2.2.2.2.2.2.1) (x.1.2.2.2.2.2.2.2.1) (x.1.2.2.2.2.2.2.2.2.1) (x.1.2.2.2.2.2.2.2.2.2.1) (x.1.2.2.2.2.2.2.2.2.2.2) (x.2) y),
  (32, .fx (.cons (.agg (.cons (.int .u32) (.cons .bool (.cons (.int .u64) (.cons (.int .u64) (.cons (.int .u64) (.cons (.int .u64) (.cons (.int .u64) (.cons (.int .i64) (.cons (.int .i64) (.cons (.int .i64) (.one (.int .i64))))))))))))) (.one (.int .i64))) (.tup (.cons (.int .i64) (.one .bool))) fun x y => job_First_R (x.1.1) (x.1.2.1) (x.1.2.2.1) (x.1.2.2.2.1) (x.1.2.2.2.2.1) (x.1.2.2.2.2.2.1) (x.1.2.2.2.2.2.2.1) (x.1.2.2.2.2.2.2.2.1) (x.1.2.2.2.2.2.2.2.2.1) (x.1.2.2.2.2.2.2.2.2.2.1) (x.1.2.2.2.2.2.2.2.2.2.2) (x.2) y)], gsT, eqT⟩
theorem q9_fns : FnsOk Tryd.prog q9_cx := Fns_assoc ⟨body_ent Tryd.func9 (by kernel_rfl) (by kernel_rfl), curfewlaw13_wakes_ok, curfewlaw13_own_ok, table_CheckRow_ok, due_Occur_ok, job_Latest_ok, job_First_ok, trivial⟩
noncomputable def q9_0_body : Code := subC [1, 1, 1, 1, 1, 1, 1, 1, 0, 1, 0, 0] (bodyOf Tryd.f9)
abbrev curfewlaw13_DueCatch_l0_Z : Type := List Int × Int × Bool × Int × Int × Int × Int × Int × Int × Int × Int × Int × Bool × Int × Int × Int × Int × Int × List Int × Int × Int × Int × Int
abbrev curfewlaw13_DueCatch_l0_Y : Type := (Unit) ⊕ (Unit)
abbrev q9_0_C : Type := Unit
abbrev q9_0_Q : Type := Nat
noncomputable def q9_0_st (z7 : curfewlaw13_DueCatch_l0_Z) (z7q : q9_0_Q) (z7c : q9_0_C) : S := ⟨[(1, (vi (z7.2.2.2.2.2.2.2.2.2.2.2.2.2.2.2.2.2.1))), (5, (V.ptr 2 0)), (6, (V.sl (.int .i64) (z7.2.2.2.2.2.2.2.2.2.2.2.2.2.2.2.2.2.2.1) none)), (7, (vi (z7.2.2.2.2.2.2.2.2.2.2.2.2.2.2.2.2.2.2.2.1))), (8, (vi (z7.2.2.2.2.2.2.2.2.2.2.2.2.2.2.2.2.2.2.2.2.1))), (81, (V.sl (.int .i64) (z7.2.2.2.2.2.2.2.2.2.2.2.2.2.2.2.2.2.2.1) none)), (82, (vi (z7.2.2.2.2.2.2.2.2.2.2.2.2.2.2.2.2.2.2.2.2.2.1))), (83, (vi (z7.2.2.2.2.2.2.2.2.2.2.2.2.2.2.2.2.2.2.2.2.2.2)))], [Blk.dead, (Blk.ice (.int .i64) (z7.1) 2 z7q), (Blk.cells [(V.int .u32 (z7.2.1)), (vb (z7.2.2.1)), (vu (z7.2.2.2.1)), (vu (z7.2.2.2.2.1)), (vu (z7.2.2.2.2.2.1)), (vu (z7.2.2.2.2.2.2.1)), (vu (z7.2.2.2.2.2.2.2.1)), (vi (z7.2.2.2.2.2.2.2.2.1)), (vi (z7.2.2.2.2.2.2.2.2.2.1)), (vi (z7.2.2.2.2.2.2.2.2.2.2.1)), (vi (z7.2.2.2.2.2.2.2.2.2.2.2.1)), (vb (z7.2.2.2.2.2.2.2.2.2.2.2.2.1)), (vi (z7.2.2.2.2.2.2.2.2.2.2.2.2.2.1)), (vu (z7.2.2.2.2.2.2.2.2.2.2.2.2.2.2.1)), (vi (z7.2.2.2.2.2.2.2.2.2.2.2.2.2.2.2.1)), (vi (z7.2.2.2.2.2.2.2.2.2.2.2.2.2.2.2.2.1)), (V.row 1 1 (List.length (z7.1)) z7q)])], []⟩
def q9_0_Kp (K : Ret → S → Prop) (z7x0 : List Int) (z7x1 : Int) (z7x2 : Bool) (z7x3 : Int) (z7x4 : Int) (z7x5 : Int) (z7x6 : Int) (z7x7 : Int) (z7x8 : Int) (z7x9 : Int) (z7x10 : Int) (z7x11 : Int) (z7x12 : Bool) (z7x13 : Int) (z7x14 : Int) (z7x15 : Int) (z7x16 : Int) (z7x17 : Int) (z7x18 : List Int) (z7x19 : Int) (z7x20 : Int) (z7q : q9_0_Q) (y8 : curfewlaw13_DueCatch_l0_Y) : Prop := sume (fun y8 => K .ret ⟨[(4, (vb false))], [Blk.dead, Blk.dead, Blk.dead], []⟩) (fun y8 => K (.exit 0) ⟨[(1, (vi z7x17)), (5, (V.ptr 2 0)), (6, (V.sl (.int .i64) z7x18 none)), (7, (vi z7x19)), (8, (vi z7x20))], [Blk.dead, (Blk.ice (.int .i64) z7x0 2 z7q), (Blk.cells [(V.int .u32 z7x1), (vb z7x2), (vu z7x3), (vu z7x4), (vu z7x5), (vu z7x6), (vu z7x7), (vi z7x8), (vi z7x9), (vi z7x10), (vi z7x11), (vb z7x12), (vi z7x13), (vu z7x14), (vi z7x15), (vi z7x16), (V.row 1 1 (List.length z7x0) z7q)])], []⟩) y8
def q9_0_K (K : Ret → S → Prop) (z7 : curfewlaw13_DueCatch_l0_Z) (z7q : q9_0_Q) (y8 : curfewlaw13_DueCatch_l0_Y) : Prop := q9_0_Kp K (z7.1) (z7.2.1) (z7.2.2.1) (z7.2.2.2.1) (z7.2.2.2.2.1) (z7.2.2.2.2.2.1) (z7.2.2.2.2.2.2.1) (z7.2.2.2.2.2.2.2.1) (z7.2.2.2.2.2.2.2.2.1) (z7.2.2.2.2.2.2.2.2.2.1) (z7.2.2.2.2.2.2.2.2.2.2.1) (z7.2.2.2.2.2.2.2.2.2.2.2.1) (z7.2.2.2.2.2.2.2.2.2.2.2.2.1) (z7.2.2.2.2.2.2.2.2.2.2.2.2.2.1) (z7.2.2.2.2.2.2.2.2.2.2.2.2.2.2.1) (z7.2.2.2.2.2.2.2.2.2.2.2.2.2.2.2.1) (z7.2.2.2.2.2.2.2.2.2.2.2.2.2.2.2.2.1) (z7.2.2.2.2.2.2.2.2.2.2.2.2.2.2.2.2.2.1) (z7.2.2.2.2.2.2.2.2.2.2.2.2.2.2.2.2.2.2.1) (z7.2.2.2.2.2.2.2.2.2.2.2.2.2.2.2.2.2.2.2.1) (z7.2.2.2.2.2.2.2.2.2.2.2.2.2.2.2.2.2.2.2.2.1) z7q y8
def curfewlaw13_DueCatch_l0 : Nat → curfewlaw13_DueCatch_l0_Z → curfewlaw13_DueCatch_l0_Y → Prop
  | 0, _, _ => False
  | k + 1, (z7x0, z7x1, z7x2, z7x3, z7x4, z7x5, z7x6, z7x7, z7x8, z7x9, z7x10, z7x11, z7x12, z7x13, z7x14, z7x15, z7x16, z7x17, z7x18, z7x19, z7x20, z7x21, z7x22), y8_ => (br (decide (z7x22 < z7x21)) (req ((decide (0 ≤ z7x22)) && (decide (z7x22 < (((List.length z7x18) : Nat) : Int)))) (∃ y9 : Int × Bool, (job_First_R z7x1 z7x2 z7x3 z7x4 z7x5 z7x6 z7x7 z7x8 z7x9 z7x10 z7x11 (IntKind.wrap .i64 ((List.getD z7x18 (Int.toNat z7x22) 0) - 1)) y9) ∧ (br (!(y9.2)) ((Sum.inl ()) = y8_) (br ((y9.1) != (List.getD z7x18 (Int.toNat z7x22) 0)) ((Sum.inl ()) = y8_) (br (decide ((List.getD z7x18 (Int.toNat z7x22) 0) < z7x13)) ((Sum.inl ()) = y8_) (br (decide ((List.getD z7x18 (Int.toNat z7x22) 0) > z7x17)) ((Sum.inl ()) = y8_) (br (decide (z7x22 > 0)) (req ((decide (0 ≤ (IntKind.wrap .i64 (z7x22 - 1)))) && (decide ((IntKind.wrap .i64 (z7x22 - 1)) < (((List.length z7x18) : Nat) : Int)))) (br (decide ((List.getD z7x18 (Int.toNat (IntKind.wrap .i64 (z7x22 - 1))) 0) ≥ (List.getD z7x18 (Int.toNat z7x22) 0))) ((Sum.inl ()) = y8_) (curfewlaw13_DueCatch_l0 k (z7x0, z7x1, z7x2, z7x3, z7x4, z7x5, z7x6, z7x7, z7x8, z7x9, z7x10, z7x11, z7x12, z7x13, z7x14, z7x15, z7x16, z7x17, z7x18, z7x19, z7x20, z7x21, (IntKind.wrap .i64 (z7x22 + 1))) y8_))) (curfewlaw13_DueCatch_l0 k (z7x0, z7x1, z7x2, z7x3, z7x4, z7x5, z7x6, z7x7, z7x8, z7x9, z7x10, z7x11, z7x12, z7x13, z7x14, z7x15, z7x16, z7x17, z7x18, z7x19, z7x20, z7x21, (IntKind.wrap .i64 (z7x22 + 1))) y8_)))))))) ((Sum.inr ()) = y8_))
def curfewlaw13_DueCatch_l0_L (z : curfewlaw13_DueCatch_l0_Z) (y : curfewlaw13_DueCatch_l0_Y) : Prop := ∃ k, curfewlaw13_DueCatch_l0 k z y
noncomputable def q9_0_lp : Lp := .auto none q9_0_body (loopG 3 q9_0_st (fun z y => ∃ k, curfewlaw13_DueCatch_l0 k z y) q9_0_K)
noncomputable def q9_lp : Nat → FuncId → Nat → Nat → Lp := lpTab [(9, 13, 3, 1, q9_0_lp)]
theorem q9_0_round (n : Nat) (z7x0 : List Int) (z7x1 : Int) (z7x2 : Bool) (z7x3 : Int) (z7x4 : Int) (z7x5 : Int) (z7x6 : Int) (z7x7 : Int) (z7x8 : Int) (z7x9 : Int) (z7x10 : Int) (z7x11 : Int) (z7x12 : Bool) (z7x13 : Int) (z7x14 : Int) (z7x15 : Int) (z7x16 : Int) (z7x17 : Int) (z7x18 : List Int) (z7x19 : Int) (z7x20 : Int) (z7x21 : Int) (z7x22 : Int) (z7q0 : Nat) (K : Ret → S → Prop) (next : S → Prop) : acode q9_cx 9 (acall q9_cx okT q9_lp (n + 1)) (okT 9) (q9_lp (n + 1) 9) none q9_0_body (iterK (wkK 3 K) next) (q9_0_st (z7x0, z7x1, z7x2, z7x3, z7x4, z7x5, z7x6, z7x7, z7x8, z7x9, z7x10, z7x11, z7x12, z7x13, z7x14, z7x15, z7x16, z7x17, z7x18, z7x19, z7x20, z7x21, z7x22) z7q0 ()) =
    (req true (br (decide (z7x22 < z7x21)) (req true (req ((decide (0 ≤ z7x22)) && (decide (z7x22 < (((List.length z7x18) : Nat) : Int)))) (rqn 8 (∃ y9 : Int × Bool, (job_First_R z7x1 z7x2 z7x3 z7x4 z7x5 z7x6 z7x7 z7x8 z7x9 z7x10 z7x11 (wI ((List.getD z7x18 (Int.toNat z7x22) 0) - 1)) y9) ∧ (rqn 8 (br (!(y9.2)) (rqn 8 (wkK 3 K .ret ⟨[(1, (vi z7x17)), (5, (V.ptr 2 0)), (6, (V.sl (.int .i64) z7x18 none)), (7, (vi z7x19)), (8, (vi z7x20)), (81, (V.sl (.int .i64) z7x18 none)), (82, (vi z7x21)), (83, (vi z7x22)), (84, (vb (decide (z7x22 < z7x21)))), (10, (vi z7x22)), (11, (vi (List.getD z7x18 (Int.toNat z7x22) 0))), (12, (vi (y9.1))), (13, (vb (y9.2))), (126, (vb true)), (4, (vb false))], [Blk.dead, (Blk.ice (.int .i64) z7x0 2 z7q0), (Blk.cells [(V.int .u32 z7x1), (vb z7x2), (vu z7x3), (vu z7x4), (vu z7x5), (vu z7x6), (vu z7x7), (vi z7x8), (vi z7x9), (vi z7x10), (vi z7x11), (vb z7x12), (vi z7x13), (vu z7x14), (vi z7x15), (vi z7x16), (V.row 1 1 (List.length z7x0) z7q0)])], []⟩)) (rqn 5 (br ((y9.1) != (List.getD z7x18 (Int.toNat z7x22) 0)) (rqn 6 (wkK 3 K .ret ⟨[(1, (vi z7x17)), (5, (V.ptr 2 0)), (6, (V.sl (.int .i64) z7x18 none)), (7, (vi z7x19)), (8, (vi z7x20)), (81, (V.sl (.int .i64) z7x18 none)), (82, (vi z7x21)), (83, (vi z7x22)), (84, (vb (decide (z7x22 < z7x21)))), (10, (vi z7x22)), (11, (vi (List.getD z7x18 (Int.toNat z7x22) 0))), (12, (vi (y9.1))), (13, (vb (y9.2))), (126, (vb true)), (4, (vb false))], [Blk.dead, (Blk.ice (.int .i64) z7x0 2 z7q0), (Blk.cells [(V.int .u32 z7x1), (vb z7x2), (vu z7x3), (vu z7x4), (vu z7x5), (vu z7x6), (vu z7x7), (vi z7x8), (vi z7x9), (vi z7x10), (vi z7x11), (vb z7x12), (vi z7x13), (vu z7x14), (vi z7x15), (vi z7x16), (V.row 1 1 (List.length z7x0) z7q0)])], []⟩)) (rqn 6 (br (decide ((List.getD z7x18 (Int.toNat z7x22) 0) < z7x13)) (rqn 4 (wkK 3 K .ret ⟨[(1, (vi z7x17)), (5, (V.ptr 2 0)), (6, (V.sl (.int .i64) z7x18 none)), (7, (vi z7x19)), (8, (vi z7x20)), (81, (V.sl (.int .i64) z7x18 none)), (82, (vi z7x21)), (83, (vi z7x22)), (84, (vb (decide (z7x22 < z7x21)))), (10, (vi z7x22)), (11, (vi (List.getD z7x18 (Int.toNat z7x22) 0))), (12, (vi (y9.1))), (13, (vb (y9.2))), (126, (vb true)), (4, (vb false))], [Blk.dead, (Blk.ice (.int .i64) z7x0 2 z7q0), (Blk.cells [(V.int .u32 z7x1), (vb z7x2), (vu z7x3), (vu z7x4), (vu z7x5), (vu z7x6), (vu z7x7), (vi z7x8), (vi z7x9), (vi z7x10), (vi z7x11), (vb z7x12), (vi z7x13), (vu z7x14), (vi z7x15), (vi z7x16), (V.row 1 1 (List.length z7x0) z7q0)])], []⟩)) (rqn 5 (br (decide ((List.getD z7x18 (Int.toNat z7x22) 0) > z7x17)) (rqn 2 (wkK 3 K .ret ⟨[(1, (vi z7x17)), (5, (V.ptr 2 0)), (6, (V.sl (.int .i64) z7x18 none)), (7, (vi z7x19)), (8, (vi z7x20)), (81, (V.sl (.int .i64) z7x18 none)), (82, (vi z7x21)), (83, (vi z7x22)), (84, (vb (decide (z7x22 < z7x21)))), (10, (vi z7x22)), (11, (vi (List.getD z7x18 (Int.toNat z7x22) 0))), (12, (vi (y9.1))), (13, (vb (y9.2))), (126, (vb true)), (4, (vb false))], [Blk.dead, (Blk.ice (.int .i64) z7x0 2 z7q0), (Blk.cells [(V.int .u32 z7x1), (vb z7x2), (vu z7x3), (vu z7x4), (vu z7x5), (vu z7x6), (vu z7x7), (vi z7x8), (vi z7x9), (vi z7x10), (vi z7x11), (vb z7x12), (vi z7x13), (vu z7x14), (vi z7x15), (vi z7x16), (V.row 1 1 (List.length z7x0) z7q0)])], []⟩)) (rqn 3 (br (decide (z7x22 > 0)) (rqn 3 (req ((decide (0 ≤ (wI (z7x22 - 1)))) && (decide ((wI (z7x22 - 1)) < (((List.length z7x18) : Nat) : Int)))) (rqn 5 (br (decide ((List.getD z7x18 (Int.toNat (wI (z7x22 - 1))) 0) ≥ (List.getD z7x18 (Int.toNat z7x22) 0))) (req true (wkK 3 K .ret ⟨[(1, (vi z7x17)), (5, (V.ptr 2 0)), (6, (V.sl (.int .i64) z7x18 none)), (7, (vi z7x19)), (8, (vi z7x20)), (81, (V.sl (.int .i64) z7x18 none)), (82, (vi z7x21)), (83, (vi z7x22)), (84, (vb (decide (z7x22 < z7x21)))), (10, (vi z7x22)), (11, (vi (List.getD z7x18 (Int.toNat z7x22) 0))), (12, (vi (y9.1))), (13, (vb (y9.2))), (126, (vb (decide ((List.getD z7x18 (Int.toNat (wI (z7x22 - 1))) 0) ≥ (List.getD z7x18 (Int.toNat z7x22) 0))))), (4, (vb false))], [Blk.dead, (Blk.ice (.int .i64) z7x0 2 z7q0), (Blk.cells [(V.int .u32 z7x1), (vb z7x2), (vu z7x3), (vu z7x4), (vu z7x5), (vu z7x6), (vu z7x7), (vi z7x8), (vi z7x9), (vi z7x10), (vi z7x11), (vb z7x12), (vi z7x13), (vu z7x14), (vi z7x15), (vi z7x16), (V.row 1 1 (List.length z7x0) z7q0)])], []⟩)) (rqn 2 (next ⟨[(1, (vi z7x17)), (5, (V.ptr 2 0)), (6, (V.sl (.int .i64) z7x18 none)), (7, (vi z7x19)), (8, (vi z7x20)), (81, (V.sl (.int .i64) z7x18 none)), (82, (vi z7x21)), (83, (vi (wI (z7x22 + 1)))), (84, (vb (decide (z7x22 < z7x21)))), (10, (vi z7x22)), (11, (vi (List.getD z7x18 (Int.toNat z7x22) 0))), (12, (vi (y9.1))), (13, (vb (y9.2))), (126, (vb (decide ((List.getD z7x18 (Int.toNat (wI (z7x22 - 1))) 0) ≥ (List.getD z7x18 (Int.toNat z7x22) 0)))))], [Blk.dead, (Blk.ice (.int .i64) z7x0 2 z7q0), (Blk.cells [(V.int .u32 z7x1), (vb z7x2), (vu z7x3), (vu z7x4), (vu z7x5), (vu z7x6), (vu z7x7), (vi z7x8), (vi z7x9), (vi z7x10), (vi z7x11), (vb z7x12), (vi z7x13), (vu z7x14), (vi z7x15), (vi z7x16), (V.row 1 1 (List.length z7x0) z7q0)])], []⟩)))))) (rqn 4 (next ⟨[(1, (vi z7x17)), (5, (V.ptr 2 0)), (6, (V.sl (.int .i64) z7x18 none)), (7, (vi z7x19)), (8, (vi z7x20)), (81, (V.sl (.int .i64) z7x18 none)), (82, (vi z7x21)), (83, (vi (wI (z7x22 + 1)))), (84, (vb (decide (z7x22 < z7x21)))), (10, (vi z7x22)), (11, (vi (List.getD z7x18 (Int.toNat z7x22) 0))), (12, (vi (y9.1))), (13, (vb (y9.2))), (126, (vb false))], [Blk.dead, (Blk.ice (.int .i64) z7x0 2 z7q0), (Blk.cells [(V.int .u32 z7x1), (vb z7x2), (vu z7x3), (vu z7x4), (vu z7x5), (vu z7x6), (vu z7x7), (vi z7x8), (vi z7x9), (vi z7x10), (vi z7x11), (vb z7x12), (vi z7x13), (vu z7x14), (vi z7x15), (vi z7x16), (V.row 1 1 (List.length z7x0) z7q0)])], []⟩)))))))))))))))) (wkK 3 K (.exit 0) ⟨[(1, (vi z7x17)), (5, (V.ptr 2 0)), (6, (V.sl (.int .i64) z7x18 none)), (7, (vi z7x19)), (8, (vi z7x20)), (81, (V.sl (.int .i64) z7x18 none)), (82, (vi z7x21)), (83, (vi z7x22)), (84, (vb (decide (z7x22 < z7x21))))], [Blk.dead, (Blk.ice (.int .i64) z7x0 2 z7q0), (Blk.cells [(V.int .u32 z7x1), (vb z7x2), (vu z7x3), (vu z7x4), (vu z7x5), (vu z7x6), (vu z7x7), (vi z7x8), (vi z7x9), (vi z7x10), (vi z7x11), (vb z7x12), (vi z7x13), (vu z7x14), (vi z7x15), (vi z7x16), (V.row 1 1 (List.length z7x0) z7q0)])], []⟩))) := by kernel_rfl
theorem q9_0_step (n k : Nat) (z7x0 : List Int) (z7x1 : Int) (z7x2 : Bool) (z7x3 : Int) (z7x4 : Int) (z7x5 : Int) (z7x6 : Int) (z7x7 : Int) (z7x8 : Int) (z7x9 : Int) (z7x10 : Int) (z7x11 : Int) (z7x12 : Bool) (z7x13 : Int) (z7x14 : Int) (z7x15 : Int) (z7x16 : Int) (z7x17 : Int) (z7x18 : List Int) (z7x19 : Int) (z7x20 : Int) (z7x21 : Int) (z7x22 : Int) (z7q0 : Nat) (y8_ : curfewlaw13_DueCatch_l0_Y) (K : Ret → S → Prop) (h : curfewlaw13_DueCatch_l0 (k + 1) (z7x0, z7x1, z7x2, z7x3, z7x4, z7x5, z7x6, z7x7, z7x8, z7x9, z7x10, z7x11, z7x12, z7x13, z7x14, z7x15, z7x16, z7x17, z7x18, z7x19, z7x20, z7x21, z7x22) y8_) (hK : q9_0_Kp K z7x0 z7x1 z7x2 z7x3 z7x4 z7x5 z7x6 z7x7 z7x8 z7x9 z7x10 z7x11 z7x12 z7x13 z7x14 z7x15 z7x16 z7x17 z7x18 z7x19 z7x20 z7q0 y8_) (next : S → Prop) (hnext : ∀ z' s', curfewlaw13_DueCatch_l0 k z' y8_ → q9_0_K K z' z7q0 y8_ → (∃ cc', wk 3 s' (q9_0_st z' z7q0 cc')) → next s') : acode q9_cx 9 (acall q9_cx okT q9_lp (n + 1)) (okT 9) (q9_lp (n + 1) 9) none q9_0_body (iterK (wkK 3 K) next) (q9_0_st (z7x0, z7x1, z7x2, z7x3, z7x4, z7x5, z7x6, z7x7, z7x8, z7x9, z7x10, z7x11, z7x12, z7x13, z7x14, z7x15, z7x16, z7x17, z7x18, z7x19, z7x20, z7x21, z7x22) z7q0 ()) := by
  refine cast (q9_0_round n z7x0 z7x1 z7x2 z7x3 z7x4 z7x5 z7x6 z7x7 z7x8 z7x9 z7x10 z7x11 z7x12 z7x13 z7x14 z7x15 z7x16 z7x17 z7x18 z7x19 z7x20 z7x21 z7x22 z7q0 K next).symm ?_
  simp only [curfewlaw13_DueCatch_l0] at h
  refine req_intro rfl ?_
  refine br_both h (fun hb h => ?_) (fun hb h => ?_)
  · refine req_intro rfl ?_
    obtain ⟨q, h⟩ := req_of h
    refine req_intro (band (band_l q) (band_r q)) ?_
    refine rqn_intro 8 ?_
    refine ex_both h fun y9 h => ?_
    refine rqn_intro 8 ?_
    refine br_both h (fun hb h => ?_) (fun hb h => ?_)
    · refine rqn_intro 8 ?_
      subst h
      refine ⟨_, ?_, hK⟩
      exact wk_of (Or.inr ⟨⟨Or.inl rfl, trivial⟩, ⟨Or.inl rfl, Or.inr (Or.inl rfl), Or.inr (Or.inl rfl), trivial⟩, rfl, rfl, rfl⟩)
    · refine rqn_intro 5 ?_
      refine br_both h (fun hb h => ?_) (fun hb h => ?_)
      · refine rqn_intro 6 ?_
        subst h
        refine ⟨_, ?_, hK⟩
        exact wk_of (Or.inr ⟨⟨Or.inl rfl, trivial⟩, ⟨Or.inl rfl, Or.inr (Or.inl rfl), Or.inr (Or.inl rfl), trivial⟩, rfl, rfl, rfl⟩)
      · refine rqn_intro 6 ?_
        refine br_both h (fun hb h => ?_) (fun hb h => ?_)
        · refine rqn_intro 4 ?_
          subst h
          refine ⟨_, ?_, hK⟩
          exact wk_of (Or.inr ⟨⟨Or.inl rfl, trivial⟩, ⟨Or.inl rfl, Or.inr (Or.inl rfl), Or.inr (Or.inl rfl), trivial⟩, rfl, rfl, rfl⟩)
        · refine rqn_intro 5 ?_
          refine br_both h (fun hb h => ?_) (fun hb h => ?_)
          · refine rqn_intro 2 ?_
            subst h
            refine ⟨_, ?_, hK⟩
            exact wk_of (Or.inr ⟨⟨Or.inl rfl, trivial⟩, ⟨Or.inl rfl, Or.inr (Or.inl rfl), Or.inr (Or.inl rfl), trivial⟩, rfl, rfl, rfl⟩)
          · refine rqn_intro 3 ?_
            refine br_both h (fun hb h => ?_) (fun hb h => ?_)
            · refine rqn_intro 3 ?_
              obtain ⟨q, h⟩ := req_of h
              refine req_intro (band (band_l q) (band_r q)) ?_
              refine rqn_intro 5 ?_
              refine br_both h (fun hb h => ?_) (fun hb h => ?_)
              · refine req_intro rfl ?_
                subst h
                refine ⟨_, ?_, hK⟩
                exact wk_of (Or.inr ⟨⟨Or.inl rfl, trivial⟩, ⟨Or.inl rfl, Or.inr (Or.inl rfl), Or.inr (Or.inl rfl), trivial⟩, rfl, rfl, rfl⟩)
              · refine rqn_intro 2 ?_
                exact hnext (z7x0, z7x1, z7x2, z7x3, z7x4, z7x5, z7x6, z7x7, z7x8, z7x9, z7x10, z7x11, z7x12, z7x13, z7x14, z7x15, z7x16, z7x17, z7x18, z7x19, z7x20, z7x21, (wI (z7x22 + 1))) _ h hK ⟨(), wk_of (Or.inr ⟨⟨Or.inl rfl, Or.inl rfl, Or.inl rfl, Or.inl rfl, Or.inl rfl, Or.inl rfl, Or.inl rfl, Or.inl rfl, trivial⟩, ⟨Or.inl rfl, Or.inl rfl, Or.inl rfl, trivial⟩, rfl, rfl, rfl⟩)⟩
            · refine rqn_intro 4 ?_
              exact hnext (z7x0, z7x1, z7x2, z7x3, z7x4, z7x5, z7x6, z7x7, z7x8, z7x9, z7x10, z7x11, z7x12, z7x13, z7x14, z7x15, z7x16, z7x17, z7x18, z7x19, z7x20, z7x21, (wI (z7x22 + 1))) _ h hK ⟨(), wk_of (Or.inr ⟨⟨Or.inl rfl, Or.inl rfl, Or.inl rfl, Or.inl rfl, Or.inl rfl, Or.inl rfl, Or.inl rfl, Or.inl rfl, trivial⟩, ⟨Or.inl rfl, Or.inl rfl, Or.inl rfl, trivial⟩, rfl, rfl, rfl⟩)⟩
  · subst h
    refine ⟨_, ?_, hK⟩
    exact wk_of (Or.inr ⟨⟨Or.inl rfl, Or.inl rfl, Or.inl rfl, Or.inl rfl, Or.inl rfl, trivial⟩, ⟨Or.inl rfl, Or.inl rfl, Or.inl rfl, trivial⟩, rfl, rfl, rfl⟩)
theorem q9_0_ok (n : Nat) : Owed q9_cx okT 9 q9_lp (n + 1) q9_0_lp := loop_owed (fun z y h => h) fun k zz qq cc yy K h hK next hnext => q9_0_step n k zz.1 zz.2.1 zz.2.2.1 zz.2.2.2.1 zz.2.2.2.2.1 zz.2.2.2.2.2.1 zz.2.2.2.2.2.2.1 zz.2.2.2.2.2.2.2.1 zz.2.2.2.2.2.2.2.2.1 zz.2.2.2.2.2.2.2.2.2.1 zz.2.2.2.2.2.2.2.2.2.2.1 zz.2.2.2.2.2.2.2.2.2.2.2.1 zz.2.2.2.2.2.2.2.2.2.2.2.2.1 zz.2.2.2.2.2.2.2.2.2.2.2.2.2.1 zz.2.2.2.2.2.2.2.2.2.2.2.2.2.2.1 zz.2.2.2.2.2.2.2.2.2.2.2.2.2.2.2.1 zz.2.2.2.2.2.2.2.2.2.2.2.2.2.2.2.2.1 zz.2.2.2.2.2.2.2.2.2.2.2.2.2.2.2.2.2.1 zz.2.2.2.2.2.2.2.2.2.2.2.2.2.2.2.2.2.2.1 zz.2.2.2.2.2.2.2.2.2.2.2.2.2.2.2.2.2.2.2.1 zz.2.2.2.2.2.2.2.2.2.2.2.2.2.2.2.2.2.2.2.2.1 zz.2.2.2.2.2.2.2.2.2.2.2.2.2.2.2.2.2.2.2.2.2.1 zz.2.2.2.2.2.2.2.2.2.2.2.2.2.2.2.2.2.2.2.2.2.2 qq yy K h hK next hnext
theorem q9_lpok : LpOk q9_cx okT q9_lp := LpOk_tab ⟨q9_0_ok, trivial⟩
def curfewlaw13_DueCatch_R (a0 : Int) (a1 : Bool) (a2 : Int) (a3 : Int) (a4 : Int) (a5 : Int) (a6 : Int) (a7 : Int) (a8 : Int) (a9 : Int) (a10 : Int) (a11 : Bool) (a12 : Int) (a13 : Int) (a14 : Int) (a15 : Int) (a16 : List Int) (a17 : Int) (y : Bool) : Prop :=
  (∃ y1 : Bool, (curfewlaw13_wakes_R y1) ∧ (br (!y1) (false = y) (∃ y2 : Int × Bool × Int × Int × Int × Int × Int × Int × Int × Int × Int × Bool × Int × Int × Int × Int × List Int, (curfewlaw13_own_R a0 a1 a2 a3 a4 a5 a6 a7 a8 a9 a10 a11 a12 a13 a14 a15 a16 y2) ∧ (∃ y4 : List Int × Int, (due_Occur_R (y2.1) ((y2.2).1) (((y2.2).2).1) ((((y2.2).2).2).1) (((((y2.2).2).2).2).1) ((((((y2.2).2).2).2).2).1) (((((((y2.2).2).2).2).2).2).1) ((((((((y2.2).2).2).2).2).2).2).1) (((((((((y2.2).2).2).2).2).2).2).2).1) ((((((((((y2.2).2).2).2).2).2).2).2).2).1) (((((((((((y2.2).2).2).2).2).2).2).2).2).2).1) ((((((((((((y2.2).2).2).2).2).2).2).2).2).2).2).1) (((((((((((((y2.2).2).2).2).2).2).2).2).2).2).2).2).1) ((((((((((((((y2.2).2).2).2).2).2).2).2).2).2).2).2).2).1) (((((((((((((((y2.2).2).2).2).2).2).2).2).2).2).2).2).2).2).1) ((((((((((((((((y2.2).2).2).2).2).2).2).2).2).2).2).2).2).2).2).1) ((((((((((((((((y2.2).2).2).2).2).2).2).2).2).2).2).2).2).2).2).2) a17 y4) ∧ (∃ y5 : Int, (table_CheckRow_R (y2.1) ((y2.2).1) (((y2.2).2).1) ((((y2.2).2).2).1) (((((y2.2).2).2).2).1) ((((((y2.2).2).2).2).2).1) (((((((y2.2).2).2).2).2).2).1) ((((((((y2.2).2).2).2).2).2).2).1) (((((((((y2.2).2).2).2).2).2).2).2).1) ((((((((((y2.2).2).2).2).2).2).2).2).2).1) (((((((((((y2.2).2).2).2).2).2).2).2).2).2).1) ((((((((((((y2.2).2).2).2).2).2).2).2).2).2).2).1) (((((((((((((y2.2).2).2).2).2).2).2).2).2).2).2).2).1) ((((((((((((((y2.2).2).2).2).2).2).2).2).2).2).2).2).2).1) (((((((((((((((y2.2).2).2).2).2).2).2).2).2).2).2).2).2).2).1) ((((((((((((((((y2.2).2).2).2).2).2).2).2).2).2).2).2).2).2).2).1) ((((((((((((((((y2.2).2).2).2).2).2).2).2).2).2).2).2).2).2).2).2) y5) ∧ (br (y5 != 0) (br ((((List.length (y4.1)) : Nat) : Int) == 0) (((y4.2) == (-1)) = y) (false = y)) (br (decide (a17 < 0)) (br ((((List.length (y4.1)) : Nat) : Int) == 0) (((y4.2) == (-1)) = y) (false = y)) (br (decide (a17 > 253402300799)) (br ((((List.length (y4.1)) : Nat) : Int) == 0) (((y4.2) == (-1)) = y) (false = y)) (br ((((((((((((y2.2).2).2).2).2).2).2).2).2).2).2).1) (br ((((List.length (y4.1)) : Nat) : Int) == 0) (((y4.2) == (((((((((((((y2.2).2).2).2).2).2).2).2).2).2).2).2).1)) = y) (false = y)) (br ((((((((((((((y2.2).2).2).2).2).2).2).2).2).2).2).2).1) == (-1)) (br ((((List.length (y4.1)) : Nat) : Int) == 0) (((y4.2) == (((((((((((((y2.2).2).2).2).2).2).2).2).2).2).2).2).1)) = y) (false = y)) (br (decide ((((((((((((((y2.2).2).2).2).2).2).2).2).2).2).2).2).1) > a17)) (br ((((List.length (y4.1)) : Nat) : Int) == 0) (((y4.2) == (((((((((((((y2.2).2).2).2).2).2).2).2).2).2).2).2).1)) = y) (false = y)) (∃ y6 : Int × Bool, (job_Latest_R (y2.1) ((y2.2).1) (((y2.2).2).1) ((((y2.2).2).2).1) (((((y2.2).2).2).2).1) ((((((y2.2).2).2).2).2).1) (((((((y2.2).2).2).2).2).2).1) ((((((((y2.2).2).2).2).2).2).2).1) (((((((((y2.2).2).2).2).2).2).2).2).1) ((((((((((y2.2).2).2).2).2).2).2).2).2).1) (((((((((((y2.2).2).2).2).2).2).2).2).2).2).1) a17 y6) ∧ (br (!(y6.2)) (false = y) (br (decide ((y6.1) < (((((((((((((y2.2).2).2).2).2).2).2).2).2).2).2).2).1))) (false = y) (∃ y11 : curfewlaw13_DueCatch_l0_Y, curfewlaw13_DueCatch_l0_L (((((((((((((((((y2.2).2).2).2).2).2).2).2).2).2).2).2).2).2).2).2), (y2.1), ((y2.2).1), (((y2.2).2).1), ((((y2.2).2).2).1), (((((y2.2).2).2).2).1), ((((((y2.2).2).2).2).2).1), (((((((y2.2).2).2).2).2).2).1), ((((((((y2.2).2).2).2).2).2).2).1), (((((((((y2.2).2).2).2).2).2).2).2).1), ((((((((((y2.2).2).2).2).2).2).2).2).2).1), (((((((((((y2.2).2).2).2).2).2).2).2).2).2).1), ((((((((((((y2.2).2).2).2).2).2).2).2).2).2).2).1), (((((((((((((y2.2).2).2).2).2).2).2).2).2).2).2).2).1), ((((((((((((((y2.2).2).2).2).2).2).2).2).2).2).2).2).2).1), (((((((((((((((y2.2).2).2).2).2).2).2).2).2).2).2).2).2).2).1), ((((((((((((((((y2.2).2).2).2).2).2).2).2).2).2).2).2).2).2).2).1), a17, (y4.1), (y4.2), (y6.1), (((List.length (y4.1)) : Nat) : Int), 0) y11 ∧ sume (fun y11 => (false = y)) (fun y11 => (∃ y12 : Int × Bool, (job_First_R (y2.1) ((y2.2).1) (((y2.2).2).1) ((((y2.2).2).2).1) (((((y2.2).2).2).2).1) ((((((y2.2).2).2).2).2).1) (((((((y2.2).2).2).2).2).2).1) ((((((((y2.2).2).2).2).2).2).2).1) (((((((((y2.2).2).2).2).2).2).2).2).1) ((((((((((y2.2).2).2).2).2).2).2).2).2).1) (((((((((((y2.2).2).2).2).2).2).2).2).2).2).1) a17 y12) ∧ (br (y12.2) (br ((y4.2) != (y12.1)) (false = y) (br (!(y12.2)) (br ((y4.2) != (-1)) (false = y) (br (((((((((((y2.2).2).2).2).2).2).2).2).2).1) == 2) (br (decide ((((List.length (y4.1)) : Nat) : Int) ≥ 1)) (br (decide ((((List.length (y4.1)) : Nat) : Int) ≤ 4)) (req (decide (0 < (((List.length (y4.1)) : Nat) : Int))) (br ((List.getD (y4.1) 0 0) == (((((((((((((y2.2).2).2).2).2).2).2).2).2).2).2).2).1)) (br ((((List.length (y4.1)) : Nat) : Int) == 4) (true = y) (req ((decide (0 ≤ (IntKind.wrap .i64 ((((List.length (y4.1)) : Nat) : Int) - 1)))) && (decide ((IntKind.wrap .i64 ((((List.length (y4.1)) : Nat) : Int) - 1)) < (((List.length (y4.1)) : Nat) : Int)))) (((List.getD (y4.1) (Int.toNat (IntKind.wrap .i64 ((((List.length (y4.1)) : Nat) : Int) - 1))) 0) == (y6.1)) = y))) (false = y))) (false = y)) (false = y)) (br (((((((((((y2.2).2).2).2).2).2).2).2).2).1) == 1) (br ((((List.length (y4.1)) : Nat) : Int) == 1) (req (decide (0 < (((List.length (y4.1)) : Nat) : Int))) (((List.getD (y4.1) 0 0) == (y6.1)) = y)) (false = y)) (br ((((List.length (y4.1)) : Nat) : Int) == 0) (br (decide ((IntKind.wrap .i64 (a17 - (y6.1))) > 59)) (true = y) (br ((((List.length (y4.1)) : Nat) : Int) == 1) (req (decide (0 < (((List.length (y4.1)) : Nat) : Int))) (br ((List.getD (y4.1) 0 0) == (y6.1)) ((decide ((IntKind.wrap .i64 (a17 - (y6.1))) ≤ 59)) = y) (false = y))) (false = y))) (br ((((List.length (y4.1)) : Nat) : Int) == 1) (req (decide (0 < (((List.length (y4.1)) : Nat) : Int))) (br ((List.getD (y4.1) 0 0) == (y6.1)) ((decide ((IntKind.wrap .i64 (a17 - (y6.1))) ≤ 59)) = y) (false = y))) (false = y)))))) (br (((((((((((y2.2).2).2).2).2).2).2).2).2).1) == 2) (br (decide ((((List.length (y4.1)) : Nat) : Int) ≥ 1)) (br (decide ((((List.length (y4.1)) : Nat) : Int) ≤ 4)) (req (decide (0 < (((List.length (y4.1)) : Nat) : Int))) (br ((List.getD (y4.1) 0 0) == (((((((((((((y2.2).2).2).2).2).2).2).2).2).2).2).2).1)) (br ((((List.length (y4.1)) : Nat) : Int) == 4) (true = y) (req ((decide (0 ≤ (IntKind.wrap .i64 ((((List.length (y4.1)) : Nat) : Int) - 1)))) && (decide ((IntKind.wrap .i64 ((((List.length (y4.1)) : Nat) : Int) - 1)) < (((List.length (y4.1)) : Nat) : Int)))) (((List.getD (y4.1) (Int.toNat (IntKind.wrap .i64 ((((List.length (y4.1)) : Nat) : Int) - 1))) 0) == (y6.1)) = y))) (false = y))) (false = y)) (false = y)) (br (((((((((((y2.2).2).2).2).2).2).2).2).2).1) == 1) (br ((((List.length (y4.1)) : Nat) : Int) == 1) (req (decide (0 < (((List.length (y4.1)) : Nat) : Int))) (((List.getD (y4.1) 0 0) == (y6.1)) = y)) (false = y)) (br ((((List.length (y4.1)) : Nat) : Int) == 0) (br (decide ((IntKind.wrap .i64 (a17 - (y6.1))) > 59)) (true = y) (br ((((List.length (y4.1)) : Nat) : Int) == 1) (req (decide (0 < (((List.length (y4.1)) : Nat) : Int))) (br ((List.getD (y4.1) 0 0) == (y6.1)) ((decide ((IntKind.wrap .i64 (a17 - (y6.1))) ≤ 59)) = y) (false = y))) (false = y))) (br ((((List.length (y4.1)) : Nat) : Int) == 1) (req (decide (0 < (((List.length (y4.1)) : Nat) : Int))) (br ((List.getD (y4.1) 0 0) == (y6.1)) ((decide ((IntKind.wrap .i64 (a17 - (y6.1))) ≤ 59)) = y) (false = y))) (false = y))))))) (br (!(y12.2)) (br ((y4.2) != (-1)) (false = y) (br (((((((((((y2.2).2).2).2).2).2).2).2).2).1) == 2) (br (decide ((((List.length (y4.1)) : Nat) : Int) ≥ 1)) (br (decide ((((List.length (y4.1)) : Nat) : Int) ≤ 4)) (req (decide (0 < (((List.length (y4.1)) : Nat) : Int))) (br ((List.getD (y4.1) 0 0) == (((((((((((((y2.2).2).2).2).2).2).2).2).2).2).2).2).1)) (br ((((List.length (y4.1)) : Nat) : Int) == 4) (true = y) (req ((decide (0 ≤ (IntKind.wrap .i64 ((((List.length (y4.1)) : Nat) : Int) - 1)))) && (decide ((IntKind.wrap .i64 ((((List.length (y4.1)) : Nat) : Int) - 1)) < (((List.length (y4.1)) : Nat) : Int)))) (((List.getD (y4.1) (Int.toNat (IntKind.wrap .i64 ((((List.length (y4.1)) : Nat) : Int) - 1))) 0) == (y6.1)) = y))) (false = y))) (false = y)) (false = y)) (br (((((((((((y2.2).2).2).2).2).2).2).2).2).1) == 1) (br ((((List.length (y4.1)) : Nat) : Int) == 1) (req (decide (0 < (((List.length (y4.1)) : Nat) : Int))) (((List.getD (y4.1) 0 0) == (y6.1)) = y)) (false = y)) (br ((((List.length (y4.1)) : Nat) : Int) == 0) (br (decide ((IntKind.wrap .i64 (a17 - (y6.1))) > 59)) (true = y) (br ((((List.length (y4.1)) : Nat) : Int) == 1) (req (decide (0 < (((List.length (y4.1)) : Nat) : Int))) (br ((List.getD (y4.1) 0 0) == (y6.1)) ((decide ((IntKind.wrap .i64 (a17 - (y6.1))) ≤ 59)) = y) (false = y))) (false = y))) (br ((((List.length (y4.1)) : Nat) : Int) == 1) (req (decide (0 < (((List.length (y4.1)) : Nat) : Int))) (br ((List.getD (y4.1) 0 0) == (y6.1)) ((decide ((IntKind.wrap .i64 (a17 - (y6.1))) ≤ 59)) = y) (false = y))) (false = y)))))) (br (((((((((((y2.2).2).2).2).2).2).2).2).2).1) == 2) (br (decide ((((List.length (y4.1)) : Nat) : Int) ≥ 1)) (br (decide ((((List.length (y4.1)) : Nat) : Int) ≤ 4)) (req (decide (0 < (((List.length (y4.1)) : Nat) : Int))) (br ((List.getD (y4.1) 0 0) == (((((((((((((y2.2).2).2).2).2).2).2).2).2).2).2).2).1)) (br ((((List.length (y4.1)) : Nat) : Int) == 4) (true = y) (req ((decide (0 ≤ (IntKind.wrap .i64 ((((List.length (y4.1)) : Nat) : Int) - 1)))) && (decide ((IntKind.wrap .i64 ((((List.length (y4.1)) : Nat) : Int) - 1)) < (((List.length (y4.1)) : Nat) : Int)))) (((List.getD (y4.1) (Int.toNat (IntKind.wrap .i64 ((((List.length (y4.1)) : Nat) : Int) - 1))) 0) == (y6.1)) = y))) (false = y))) (false = y)) (false = y)) (br (((((((((((y2.2).2).2).2).2).2).2).2).2).1) == 1) (br ((((List.length (y4.1)) : Nat) : Int) == 1) (req (decide (0 < (((List.length (y4.1)) : Nat) : Int))) (((List.getD (y4.1) 0 0) == (y6.1)) = y)) (false = y)) (br ((((List.length (y4.1)) : Nat) : Int) == 0) (br (decide ((IntKind.wrap .i64 (a17 - (y6.1))) > 59)) (true = y) (br ((((List.length (y4.1)) : Nat) : Int) == 1) (req (decide (0 < (((List.length (y4.1)) : Nat) : Int))) (br ((List.getD (y4.1) 0 0) == (y6.1)) ((decide ((IntKind.wrap .i64 (a17 - (y6.1))) ≤ 59)) = y) (false = y))) (false = y))) (br ((((List.length (y4.1)) : Nat) : Int) == 1) (req (decide (0 < (((List.length (y4.1)) : Nat) : Int))) (br ((List.getD (y4.1) 0 0) == (y6.1)) ((decide ((IntKind.wrap .i64 (a17 - (y6.1))) ≤ 59)) = y) (false = y))) (false = y))))))))) y11)))))))))))))))
theorem q9_tree (a0 : Int) (a1 : Bool) (a2 : Int) (a3 : Int) (a4 : Int) (a5 : Int) (a6 : Int) (a7 : Int) (a8 : Int) (a9 : Int) (a10 : Int) (a11 : Bool) (a12 : Int) (a13 : Int) (a14 : Int) (a15 : Int) (a16 : List Int) (a17 : Int) (y : Bool) : acall q9_cx okT q9_lp 60 (.fn 9 [] []) [(V.agg [(V.int .u32 a0), (V.bool a1), (V.int .u64 a2), (V.int .u64 a3), (V.int .u64 a4), (V.int .u64 a5), (V.int .u64 a6), (V.int .i64 a7), (V.int .i64 a8), (V.int .i64 a9), (V.int .i64 a10), (V.bool a11), (V.int .i64 a12), (V.int .u64 a13), (V.int .i64 a14), (V.int .i64 a15), (V.sl (.int .i64) a16 none)]), (V.int .i64 a17)] [] (leafK .bool y) =
    (rqn 2 (∃ y1 : Bool, (curfewlaw13_wakes_R y1) ∧ (req true (br (!y1) (req true (req true (false = y))) (rqn 2 (∃ y2 : Int × Bool × Int × Int × Int × Int × Int × Int × Int × Int × Int × Bool × Int × Int × Int × Int × List Int, (curfewlaw13_own_R a0 a1 a2 a3 a4 a5 a6 a7 a8 a9 a10 a11 a12 a13 a14 a15 a16 y2) ∧ (∀ c3 : Nat, Nat.ble (List.length ((((((((((((((((y2.2).2).2).2).2).2).2).2).2).2).2).2).2).2).2).2)) c3 = true → (rqn 2 (req (((true && (true && (true && (true && (true && (true && (true && (true && (true && (true && (true && (true && (true && (true && (true && (true && ((Nat.beq (List.length ((((((((((((((((y2.2).2).2).2).2).2).2).2).2).2).2).2).2).2).2).2)) (List.length ((((((((((((((((y2.2).2).2).2).2).2).2).2).2).2).2).2).2).2).2).2))) && true))))))))))))))))) && (true && true)) && ((true && (true && (true && (true && (true && (true && (true && (true && (true && (true && (true && (true && (true && (true && (true && (true && true)))))))))))))))) && true)) (∃ y4 : List Int × Int, (due_Occur_R (y2.1) ((y2.2).1) (((y2.2).2).1) ((((y2.2).2).2).1) (((((y2.2).2).2).2).1) ((((((y2.2).2).2).2).2).1) (((((((y2.2).2).2).2).2).2).1) ((((((((y2.2).2).2).2).2).2).2).1) (((((((((y2.2).2).2).2).2).2).2).2).1) ((((((((((y2.2).2).2).2).2).2).2).2).2).1) (((((((((((y2.2).2).2).2).2).2).2).2).2).2).1) ((((((((((((y2.2).2).2).2).2).2).2).2).2).2).2).1) (((((((((((((y2.2).2).2).2).2).2).2).2).2).2).2).2).1) ((((((((((((((y2.2).2).2).2).2).2).2).2).2).2).2).2).2).1) (((((((((((((((y2.2).2).2).2).2).2).2).2).2).2).2).2).2).2).1) ((((((((((((((((y2.2).2).2).2).2).2).2).2).2).2).2).2).2).2).2).1) ((((((((((((((((y2.2).2).2).2).2).2).2).2).2).2).2).2).2).2).2).2) a17 y4) ∧ (rqn 6 (req (true && (true && (true && (true && (true && (true && (true && (true && (true && (true && (true && (true && (true && (true && (true && (true && (Nat.beq (List.length ((((((((((((((((y2.2).2).2).2).2).2).2).2).2).2).2).2).2).2).2).2)) (List.length ((((((((((((((((y2.2).2).2).2).2).2).2).2).2).2).2).2).2).2).2).2))))))))))))))))))) (∃ y5 : Int, (table_CheckRow_R (y2.1) ((y2.2).1) (((y2.2).2).1) ((((y2.2).2).2).1) (((((y2.2).2).2).2).1) ((((((y2.2).2).2).2).2).1) (((((((y2.2).2).2).2).2).2).1) ((((((((y2.2).2).2).2).2).2).2).1) (((((((((y2.2).2).2).2).2).2).2).2).1) ((((((((((y2.2).2).2).2).2).2).2).2).2).1) (((((((((((y2.2).2).2).2).2).2).2).2).2).2).1) ((((((((((((y2.2).2).2).2).2).2).2).2).2).2).2).1) (((((((((((((y2.2).2).2).2).2).2).2).2).2).2).2).2).1) ((((((((((((((y2.2).2).2).2).2).2).2).2).2).2).2).2).2).1) (((((((((((((((y2.2).2).2).2).2).2).2).2).2).2).2).2).2).2).1) ((((((((((((((((y2.2).2).2).2).2).2).2).2).2).2).2).2).2).2).2).1) ((((((((((((((((y2.2).2).2).2).2).2).2).2).2).2).2).2).2).2).2).2) y5) ∧ (rqn 2 (br (y5 != 0) (rqn 7 (br ((((List.length (y4.1)) : Nat) : Int) == 0) (rqn 4 (req true (((y4.2) == (-1)) = y))) (rqn 2 (req true (false = y))))) (rqn 4 (br (decide (a17 < 0)) (rqn 5 (br ((((List.length (y4.1)) : Nat) : Int) == 0) (rqn 4 (req true (((y4.2) == (-1)) = y))) (rqn 2 (req true (false = y))))) (rqn 3 (br (decide (a17 > 253402300799)) (rqn 4 (br ((((List.length (y4.1)) : Nat) : Int) == 0) (rqn 4 (req true (((y4.2) == (-1)) = y))) (rqn 2 (req true (false = y))))) (rqn 3 (br ((((((((((((y2.2).2).2).2).2).2).2).2).2).2).2).1) (rqn 7 (br ((((List.length (y4.1)) : Nat) : Int) == 0) (rqn 6 (req true (((y4.2) == (((((((((((((y2.2).2).2).2).2).2).2).2).2).2).2).2).1)) = y))) (rqn 2 (req true (false = y))))) (rqn 5 (br ((((((((((((((y2.2).2).2).2).2).2).2).2).2).2).2).2).1) == (-1)) (rqn 5 (br ((((List.length (y4.1)) : Nat) : Int) == 0) (rqn 6 (req true (((y4.2) == (((((((((((((y2.2).2).2).2).2).2).2).2).2).2).2).2).1)) = y))) (rqn 2 (req true (false = y))))) (rqn 5 (br (decide ((((((((((((((y2.2).2).2).2).2).2).2).2).2).2).2).2).1) > a17)) (rqn 4 (br ((((List.length (y4.1)) : Nat) : Int) == 0) (rqn 6 (req true (((y4.2) == (((((((((((((y2.2).2).2).2).2).2).2).2).2).2).2).2).1)) = y))) (rqn 2 (req true (false = y))))) (rqn 4 (∃ y6 : Int × Bool, (job_Latest_R (y2.1) ((y2.2).1) (((y2.2).2).1) ((((y2.2).2).2).1) (((((y2.2).2).2).2).1) ((((((y2.2).2).2).2).2).1) (((((((y2.2).2).2).2).2).2).1) ((((((((y2.2).2).2).2).2).2).2).1) (((((((((y2.2).2).2).2).2).2).2).2).1) ((((((((((y2.2).2).2).2).2).2).2).2).2).1) (((((((((((y2.2).2).2).2).2).2).2).2).2).2).1) a17 y6) ∧ (rqn 8 (br (!(y6.2)) (rqn 2 (req true (false = y))) (rqn 5 (br (decide ((y6.1) < (((((((((((((y2.2).2).2).2).2).2).2).2).2).2).2).2).1))) (req true (req true (false = y))) (rqn 3 (((none : Option Nat) = (none : Option Nat)) ∧ (q9_0_body = q9_0_body) ∧ ∃ z10 : curfewlaw13_DueCatch_l0_Z, ∃ z10q : q9_0_Q, ∃ y11 : curfewlaw13_DueCatch_l0_Y, (3 = 3) ∧ (∃ zc : q9_0_C, wk 3 ⟨[(0, (V.agg [(V.int .u32 a0), (vb a1), (vu a2), (vu a3), (vu a4), (vu a5), (vu a6), (vi a7), (vi a8), (vi a9), (vi a10), (vb a11), (vi a12), (vu a13), (vi a14), (vi a15), (V.sl (.int .i64) a16 none)])), (1, (vi a17)), (2, (V.ptr 0 0)), (4, (vb false)), (17, (vb (!y1))), (5, (V.ptr 2 0)), (6, (V.sl (.int .i64) (y4.1) none)), (7, (vi (y4.2))), (36, (vb (decide (a17 > 253402300799)))), (56, (vb (decide ((((((((((((((y2.2).2).2).2).2).2).2).2).2).2).2).2).1) > a17)))), (8, (vi (y6.1))), (9, (vb (y6.2))), (80, (vb (decide ((y6.1) < (((((((((((((y2.2).2).2).2).2).2).2).2).2).2).2).2).1))))), (81, (V.sl (.int .i64) (y4.1) none)), (82, (vi (((List.length (y4.1)) : Nat) : Int))), (83, (vi 0))], [(Blk.cells [(V.int .u32 a0), (vb a1), (vu a2), (vu a3), (vu a4), (vu a5), (vu a6), (vi a7), (vi a8), (vi a9), (vi a10), (vb a11), (vi a12), (vu a13), (vi a14), (vi a15), (V.sl (.int .i64) a16 none)]), (Blk.ice (.int .i64) ((((((((((((((((y2.2).2).2).2).2).2).2).2).2).2).2).2).2).2).2).2) 2 c3), (Blk.cells [(V.int .u32 (y2.1)), (vb ((y2.2).1)), (vu (((y2.2).2).1)), (vu ((((y2.2).2).2).1)), (vu (((((y2.2).2).2).2).1)), (vu ((((((y2.2).2).2).2).2).1)), (vu (((((((y2.2).2).2).2).2).2).1)), (vi ((((((((y2.2).2).2).2).2).2).2).1)), (vi (((((((((y2.2).2).2).2).2).2).2).2).1)), (vi ((((((((((y2.2).2).2).2).2).2).2).2).2).1)), (vi (((((((((((y2.2).2).2).2).2).2).2).2).2).2).1)), (vb ((((((((((((y2.2).2).2).2).2).2).2).2).2).2).2).1)), (vi (((((((((((((y2.2).2).2).2).2).2).2).2).2).2).2).2).1)), (vu ((((((((((((((y2.2).2).2).2).2).2).2).2).2).2).2).2).2).1)), (vi (((((((((((((((y2.2).2).2).2).2).2).2).2).2).2).2).2).2).2).1)), (vi ((((((((((((((((y2.2).2).2).2).2).2).2).2).2).2).2).2).2).2).2).1)), (V.row 1 1 (List.length ((((((((((((((((y2.2).2).2).2).2).2).2).2).2).2).2).2).2).2).2).2)) c3)])], []⟩ (q9_0_st z10 z10q zc)) ∧ (∃ k, curfewlaw13_DueCatch_l0 k z10 y11) ∧ sume (fun y11 => (req true (false = y))) (fun y11 => (rqn 4 (∃ y12 : Int × Bool, (job_First_R (z10.2.1) (z10.2.2.1) (z10.2.2.2.1) (z10.2.2.2.2.1) (z10.2.2.2.2.2.1) (z10.2.2.2.2.2.2.1) (z10.2.2.2.2.2.2.2.1) (z10.2.2.2.2.2.2.2.2.1) (z10.2.2.2.2.2.2.2.2.2.1) (z10.2.2.2.2.2.2.2.2.2.2.1) (z10.2.2.2.2.2.2.2.2.2.2.2.1) (z10.2.2.2.2.2.2.2.2.2.2.2.2.2.2.2.2.2.1) y12) ∧ (rqn 7 (br (y12.2) (rqn 5 (br ((z10.2.2.2.2.2.2.2.2.2.2.2.2.2.2.2.2.2.2.2.1) != (y12.1)) (rqn 2 (req true (false = y))) (rqn 3 (br (!(y12.2)) (rqn 4 (br ((z10.2.2.2.2.2.2.2.2.2.2.2.2.2.2.2.2.2.2.2.1) != (-1)) (req true (req true (false = y))) (rqn 5 (br ((z10.2.2.2.2.2.2.2.2.2.2.1) == 2) (rqn 5 (br (decide ((((List.length (z10.2.2.2.2.2.2.2.2.2.2.2.2.2.2.2.2.2.2.1)) : Nat) : Int) ≥ 1)) (rqn 5 (br (decide ((((List.length (z10.2.2.2.2.2.2.2.2.2.2.2.2.2.2.2.2.2.2.1)) : Nat) : Int) ≤ 4)) (req true (req (true && (decide (0 < (((List.length (z10.2.2.2.2.2.2.2.2.2.2.2.2.2.2.2.2.2.2.1)) : Nat) : Int)))) (rqn 6 (br ((List.getD (z10.2.2.2.2.2.2.2.2.2.2.2.2.2.2.2.2.2.2.1) 0 0) == (z10.2.2.2.2.2.2.2.2.2.2.2.2.2.1)) (rqn 4 (br ((((List.length (z10.2.2.2.2.2.2.2.2.2.2.2.2.2.2.2.2.2.2.1)) : Nat) : Int) == 4) (rqn 3 (req true (true = y))) (rqn 4 (req ((decide (0 ≤ (wI ((((List.length (z10.2.2.2.2.2.2.2.2.2.2.2.2.2.2.2.2.2.2.1)) : Nat) : Int) - 1)))) && (decide ((wI ((((List.length (z10.2.2.2.2.2.2.2.2.2.2.2.2.2.2.2.2.2.2.1)) : Nat) : Int) - 1)) < (((List.length (z10.2.2.2.2.2.2.2.2.2.2.2.2.2.2.2.2.2.2.1)) : Nat) : Int)))) (rqn 6 (req true (((List.getD (z10.2.2.2.2.2.2.2.2.2.2.2.2.2.2.2.2.2.2.1) (Int.toNat (wI ((((List.length (z10.2.2.2.2.2.2.2.2.2.2.2.2.2.2.2.2.2.2.1)) : Nat) : Int) - 1))) 0) == (z10.2.2.2.2.2.2.2.2.2.2.2.2.2.2.2.2.2.2.2.2.1)) = y))))))) (rqn 2 (req true (false = y))))))) (rqn 4 (req true (false = y))))) (rqn 6 (req true (false = y))))) (rqn 2 (br ((z10.2.2.2.2.2.2.2.2.2.2.1) == 1) (rqn 4 (br ((((List.length (z10.2.2.2.2.2.2.2.2.2.2.2.2.2.2.2.2.2.2.1)) : Nat) : Int) == 1) (req true (req (true && (decide (0 < (((List.length (z10.2.2.2.2.2.2.2.2.2.2.2.2.2.2.2.2.2.2.1)) : Nat) : Int)))) (rqn 5 (req true (((List.getD (z10.2.2.2.2.2.2.2.2.2.2.2.2.2.2.2.2.2.2.1) 0 0) == (z10.2.2.2.2.2.2.2.2.2.2.2.2.2.2.2.2.2.2.2.2.1)) = y))))) (rqn 2 (req true (false = y))))) (rqn 4 (br ((((List.length (z10.2.2.2.2.2.2.2.2.2.2.2.2.2.2.2.2.2.2.1)) : Nat) : Int) == 0) (rqn 6 (br (decide ((wI ((z10.2.2.2.2.2.2.2.2.2.2.2.2.2.2.2.2.2.1) - (z10.2.2.2.2.2.2.2.2.2.2.2.2.2.2.2.2.2.2.2.2.1))) > 59)) (rqn 2 (req true (true = y))) (rqn 4 (br ((((List.length (z10.2.2.2.2.2.2.2.2.2.2.2.2.2.2.2.2.2.2.1)) : Nat) : Int) == 1) (req true (req (true && (decide (0 < (((List.length (z10.2.2.2.2.2.2.2.2.2.2.2.2.2.2.2.2.2.2.1)) : Nat) : Int)))) (rqn 5 (br ((List.getD (z10.2.2.2.2.2.2.2.2.2.2.2.2.2.2.2.2.2.2.1) 0 0) == (z10.2.2.2.2.2.2.2.2.2.2.2.2.2.2.2.2.2.2.2.2.1)) (rqn 7 (req true ((decide ((wI ((z10.2.2.2.2.2.2.2.2.2.2.2.2.2.2.2.2.2.1) - (z10.2.2.2.2.2.2.2.2.2.2.2.2.2.2.2.2.2.2.2.2.1))) ≤ 59)) = y))) (rqn 3 (req true (false = y))))))) (rqn 5 (req true (false = y))))))) (rqn 6 (br ((((List.length (z10.2.2.2.2.2.2.2.2.2.2.2.2.2.2.2.2.2.2.1)) : Nat) : Int) == 1) (req true (req (true && (decide (0 < (((List.length (z10.2.2.2.2.2.2.2.2.2.2.2.2.2.2.2.2.2.2.1)) : Nat) : Int)))) (rqn 5 (br ((List.getD (z10.2.2.2.2.2.2.2.2.2.2.2.2.2.2.2.2.2.2.1) 0 0) == (z10.2.2.2.2.2.2.2.2.2.2.2.2.2.2.2.2.2.2.2.2.1)) (rqn 7 (req true ((decide ((wI ((z10.2.2.2.2.2.2.2.2.2.2.2.2.2.2.2.2.2.1) - (z10.2.2.2.2.2.2.2.2.2.2.2.2.2.2.2.2.2.2.2.2.1))) ≤ 59)) = y))) (rqn 3 (req true (false = y))))))) (rqn 5 (req true (false = y))))))))))))) (rqn 7 (br ((z10.2.2.2.2.2.2.2.2.2.2.1) == 2) (rqn 5 (br (decide ((((List.length (z10.2.2.2.2.2.2.2.2.2.2.2.2.2.2.2.2.2.2.1)) : Nat) : Int) ≥ 1)) (rqn 5 (br (decide ((((List.length (z10.2.2.2.2.2.2.2.2.2.2.2.2.2.2.2.2.2.2.1)) : Nat) : Int) ≤ 4)) (req true (req (true && (decide (0 < (((List.length (z10.2.2.2.2.2.2.2.2.2.2.2.2.2.2.2.2.2.2.1)) : Nat) : Int)))) (rqn 6 (br ((List.getD (z10.2.2.2.2.2.2.2.2.2.2.2.2.2.2.2.2.2.2.1) 0 0) == (z10.2.2.2.2.2.2.2.2.2.2.2.2.2.1)) (rqn 4 (br ((((List.length (z10.2.2.2.2.2.2.2.2.2.2.2.2.2.2.2.2.2.2.1)) : Nat) : Int) == 4) (rqn 3 (req true (true = y))) (rqn 4 (req ((decide (0 ≤ (wI ((((List.length (z10.2.2.2.2.2.2.2.2.2.2.2.2.2.2.2.2.2.2.1)) : Nat) : Int) - 1)))) && (decide ((wI ((((List.length (z10.2.2.2.2.2.2.2.2.2.2.2.2.2.2.2.2.2.2.1)) : Nat) : Int) - 1)) < (((List.length (z10.2.2.2.2.2.2.2.2.2.2.2.2.2.2.2.2.2.2.1)) : Nat) : Int)))) (rqn 6 (req true (((List.getD (z10.2.2.2.2.2.2.2.2.2.2.2.2.2.2.2.2.2.2.1) (Int.toNat (wI ((((List.length (z10.2.2.2.2.2.2.2.2.2.2.2.2.2.2.2.2.2.2.1)) : Nat) : Int) - 1))) 0) == (z10.2.2.2.2.2.2.2.2.2.2.2.2.2.2.2.2.2.2.2.2.1)) = y))))))) (rqn 2 (req true (false = y))))))) (rqn 4 (req true (false = y))))) (rqn 6 (req true (false = y))))) (rqn 2 (br ((z10.2.2.2.2.2.2.2.2.2.2.1) == 1) (rqn 4 (br ((((List.length (z10.2.2.2.2.2.2.2.2.2.2.2.2.2.2.2.2.2.2.1)) : Nat) : Int) == 1) (req true (req (true && (decide (0 < (((List.length (z10.2.2.2.2.2.2.2.2.2.2.2.2.2.2.2.2.2.2.1)) : Nat) : Int)))) (rqn 5 (req true (((List.getD (z10.2.2.2.2.2.2.2.2.2.2.2.2.2.2.2.2.2.2.1) 0 0) == (z10.2.2.2.2.2.2.2.2.2.2.2.2.2.2.2.2.2.2.2.2.1)) = y))))) (rqn 2 (req true (false = y))))) (rqn 4 (br ((((List.length (z10.2.2.2.2.2.2.2.2.2.2.2.2.2.2.2.2.2.2.1)) : Nat) : Int) == 0) (rqn 6 (br (decide ((wI ((z10.2.2.2.2.2.2.2.2.2.2.2.2.2.2.2.2.2.1) - (z10.2.2.2.2.2.2.2.2.2.2.2.2.2.2.2.2.2.2.2.2.1))) > 59)) (rqn 2 (req true (true = y))) (rqn 4 (br ((((List.length (z10.2.2.2.2.2.2.2.2.2.2.2.2.2.2.2.2.2.2.1)) : Nat) : Int) == 1) (req true (req (true && (decide (0 < (((List.length (z10.2.2.2.2.2.2.2.2.2.2.2.2.2.2.2.2.2.2.1)) : Nat) : Int)))) (rqn 5 (br ((List.getD (z10.2.2.2.2.2.2.2.2.2.2.2.2.2.2.2.2.2.2.1) 0 0) == (z10.2.2.2.2.2.2.2.2.2.2.2.2.2.2.2.2.2.2.2.2.1)) (rqn 7 (req true ((decide ((wI ((z10.2.2.2.2.2.2.2.2.2.2.2.2.2.2.2.2.2.1) - (z10.2.2.2.2.2.2.2.2.2.2.2.2.2.2.2.2.2.2.2.2.1))) ≤ 59)) = y))) (rqn 3 (req true (false = y))))))) (rqn 5 (req true (false = y))))))) (rqn 6 (br ((((List.length (z10.2.2.2.2.2.2.2.2.2.2.2.2.2.2.2.2.2.2.1)) : Nat) : Int) == 1) (req true (req (true && (decide (0 < (((List.length (z10.2.2.2.2.2.2.2.2.2.2.2.2.2.2.2.2.2.2.1)) : Nat) : Int)))) (rqn 5 (br ((List.getD (z10.2.2.2.2.2.2.2.2.2.2.2.2.2.2.2.2.2.2.1) 0 0) == (z10.2.2.2.2.2.2.2.2.2.2.2.2.2.2.2.2.2.2.2.2.1)) (rqn 7 (req true ((decide ((wI ((z10.2.2.2.2.2.2.2.2.2.2.2.2.2.2.2.2.2.1) - (z10.2.2.2.2.2.2.2.2.2.2.2.2.2.2.2.2.2.2.2.2.1))) ≤ 59)) = y))) (rqn 3 (req true (false = y))))))) (rqn 5 (req true (false = y))))))))))))))) (rqn 5 (br (!(y12.2)) (rqn 4 (br ((z10.2.2.2.2.2.2.2.2.2.2.2.2.2.2.2.2.2.2.2.1) != (-1)) (req true (req true (false = y))) (rqn 5 (br ((z10.2.2.2.2.2.2.2.2.2.2.1) == 2) (rqn 5 (br (decide ((((List.length (z10.2.2.2.2.2.2.2.2.2.2.2.2.2.2.2.2.2.2.1)) : Nat) : Int) ≥ 1)) (rqn 5 (br (decide ((((List.length (z10.2.2.2.2.2.2.2.2.2.2.2.2.2.2.2.2.2.2.1)) : Nat) : Int) ≤ 4)) (req true (req (true && (decide (0 < (((List.length (z10.2.2.2.2.2.2.2.2.2.2.2.2.2.2.2.2.2.2.1)) : Nat) : Int)))) (rqn 6 (br ((List.getD (z10.2.2.2.2.2.2.2.2.2.2.2.2.2.2.2.2.2.2.1) 0 0) == (z10.2.2.2.2.2.2.2.2.2.2.2.2.2.1)) (rqn 4 (br ((((List.length (z10.2.2.2.2.2.2.2.2.2.2.2.2.2.2.2.2.2.2.1)) : Nat) : Int) == 4) (rqn 3 (req true (true = y))) (rqn 4 (req ((decide (0 ≤ (wI ((((List.length (z10.2.2.2.2.2.2.2.2.2.2.2.2.2.2.2.2.2.2.1)) : Nat) : Int) - 1)))) && (decide ((wI ((((List.length (z10.2.2.2.2.2.2.2.2.2.2.2.2.2.2.2.2.2.2.1)) : Nat) : Int) - 1)) < (((List.length (z10.2.2.2.2.2.2.2.2.2.2.2.2.2.2.2.2.2.2.1)) : Nat) : Int)))) (rqn 6 (req true (((List.getD (z10.2.2.2.2.2.2.2.2.2.2.2.2.2.2.2.2.2.2.1) (Int.toNat (wI ((((List.length (z10.2.2.2.2.2.2.2.2.2.2.2.2.2.2.2.2.2.2.1)) : Nat) : Int) - 1))) 0) == (z10.2.2.2.2.2.2.2.2.2.2.2.2.2.2.2.2.2.2.2.2.1)) = y))))))) (rqn 2 (req true (false = y))))))) (rqn 4 (req true (false = y))))) (rqn 6 (req true (false = y))))) (rqn 2 (br ((z10.2.2.2.2.2.2.2.2.2.2.1) == 1) (rqn 4 (br ((((List.length (z10.2.2.2.2.2.2.2.2.2.2.2.2.2.2.2.2.2.2.1)) : Nat) : Int) == 1) (req true (req (true && (decide (0 < (((List.length (z10.2.2.2.2.2.2.2.2.2.2.2.2.2.2.2.2.2.2.1)) : Nat) : Int)))) (rqn 5 (req true (((List.getD (z10.2.2.2.2.2.2.2.2.2.2.2.2.2.2.2.2.2.2.1) 0 0) == (z10.2.2.2.2.2.2.2.2.2.2.2.2.2.2.2.2.2.2.2.2.1)) = y))))) (rqn 2 (req true (false = y))))) (rqn 4 (br ((((List.length (z10.2.2.2.2.2.2.2.2.2.2.2.2.2.2.2.2.2.2.1)) : Nat) : Int) == 0) (rqn 6 (br (decide ((wI ((z10.2.2.2.2.2.2.2.2.2.2.2.2.2.2.2.2.2.1) - (z10.2.2.2.2.2.2.2.2.2.2.2.2.2.2.2.2.2.2.2.2.1))) > 59)) (rqn 2 (req true (true = y))) (rqn 4 (br ((((List.length (z10.2.2.2.2.2.2.2.2.2.2.2.2.2.2.2.2.2.2.1)) : Nat) : Int) == 1) (req true (req (true && (decide (0 < (((List.length (z10.2.2.2.2.2.2.2.2.2.2.2.2.2.2.2.2.2.2.1)) : Nat) : Int)))) (rqn 5 (br ((List.getD (z10.2.2.2.2.2.2.2.2.2.2.2.2.2.2.2.2.2.2.1) 0 0) == (z10.2.2.2.2.2.2.2.2.2.2.2.2.2.2.2.2.2.2.2.2.1)) (rqn 7 (req true ((decide ((wI ((z10.2.2.2.2.2.2.2.2.2.2.2.2.2.2.2.2.2.1) - (z10.2.2.2.2.2.2.2.2.2.2.2.2.2.2.2.2.2.2.2.2.1))) ≤ 59)) = y))) (rqn 3 (req true (false = y))))))) (rqn 5 (req true (false = y))))))) (rqn 6 (br ((((List.length (z10.2.2.2.2.2.2.2.2.2.2.2.2.2.2.2.2.2.2.1)) : Nat) : Int) == 1) (req true (req (true && (decide (0 < (((List.length (z10.2.2.2.2.2.2.2.2.2.2.2.2.2.2.2.2.2.2.1)) : Nat) : Int)))) (rqn 5 (br ((List.getD (z10.2.2.2.2.2.2.2.2.2.2.2.2.2.2.2.2.2.2.1) 0 0) == (z10.2.2.2.2.2.2.2.2.2.2.2.2.2.2.2.2.2.2.2.2.1)) (rqn 7 (req true ((decide ((wI ((z10.2.2.2.2.2.2.2.2.2.2.2.2.2.2.2.2.2.1) - (z10.2.2.2.2.2.2.2.2.2.2.2.2.2.2.2.2.2.2.2.2.1))) ≤ 59)) = y))) (rqn 3 (req true (false = y))))))) (rqn 5 (req true (false = y))))))))))))) (rqn 7 (br ((z10.2.2.2.2.2.2.2.2.2.2.1) == 2) (rqn 5 (br (decide ((((List.length (z10.2.2.2.2.2.2.2.2.2.2.2.2.2.2.2.2.2.2.1)) : Nat) : Int) ≥ 1)) (rqn 5 (br (decide ((((List.length (z10.2.2.2.2.2.2.2.2.2.2.2.2.2.2.2.2.2.2.1)) : Nat) : Int) ≤ 4)) (req true (req (true && (decide (0 < (((List.length (z10.2.2.2.2.2.2.2.2.2.2.2.2.2.2.2.2.2.2.1)) : Nat) : Int)))) (rqn 6 (br ((List.getD (z10.2.2.2.2.2.2.2.2.2.2.2.2.2.2.2.2.2.2.1) 0 0) == (z10.2.2.2.2.2.2.2.2.2.2.2.2.2.1)) (rqn 4 (br ((((List.length (z10.2.2.2.2.2.2.2.2.2.2.2.2.2.2.2.2.2.2.1)) : Nat) : Int) == 4) (rqn 3 (req true (true = y))) (rqn 4 (req ((decide (0 ≤ (wI ((((List.length (z10.2.2.2.2.2.2.2.2.2.2.2.2.2.2.2.2.2.2.1)) : Nat) : Int) - 1)))) && (decide ((wI ((((List.length (z10.2.2.2.2.2.2.2.2.2.2.2.2.2.2.2.2.2.2.1)) : Nat) : Int) - 1)) < (((List.length (z10.2.2.2.2.2.2.2.2.2.2.2.2.2.2.2.2.2.2.1)) : Nat) : Int)))) (rqn 6 (req true (((List.getD (z10.2.2.2.2.2.2.2.2.2.2.2.2.2.2.2.2.2.2.1) (Int.toNat (wI ((((List.length (z10.2.2.2.2.2.2.2.2.2.2.2.2.2.2.2.2.2.2.1)) : Nat) : Int) - 1))) 0) == (z10.2.2.2.2.2.2.2.2.2.2.2.2.2.2.2.2.2.2.2.2.1)) = y))))))) (rqn 2 (req true (false = y))))))) (rqn 4 (req true (false = y))))) (rqn 6 (req true (false = y))))) (rqn 2 (br ((z10.2.2.2.2.2.2.2.2.2.2.1) == 1) (rqn 4 (br ((((List.length (z10.2.2.2.2.2.2.2.2.2.2.2.2.2.2.2.2.2.2.1)) : Nat) : Int) == 1) (req true (req (true && (decide (0 < (((List.length (z10.2.2.2.2.2.2.2.2.2.2.2.2.2.2.2.2.2.2.1)) : Nat) : Int)))) (rqn 5 (req true (((List.getD (z10.2.2.2.2.2.2.2.2.2.2.2.2.2.2.2.2.2.2.1) 0 0) == (z10.2.2.2.2.2.2.2.2.2.2.2.2.2.2.2.2.2.2.2.2.1)) = y))))) (rqn 2 (req true (false = y))))) (rqn 4 (br ((((List.length (z10.2.2.2.2.2.2.2.2.2.2.2.2.2.2.2.2.2.2.1)) : Nat) : Int) == 0) (rqn 6 (br (decide ((wI ((z10.2.2.2.2.2.2.2.2.2.2.2.2.2.2.2.2.2.1) - (z10.2.2.2.2.2.2.2.2.2.2.2.2.2.2.2.2.2.2.2.2.1))) > 59)) (rqn 2 (req true (true = y))) (rqn 4 (br ((((List.length (z10.2.2.2.2.2.2.2.2.2.2.2.2.2.2.2.2.2.2.1)) : Nat) : Int) == 1) (req true (req (true && (decide (0 < (((List.length (z10.2.2.2.2.2.2.2.2.2.2.2.2.2.2.2.2.2.2.1)) : Nat) : Int)))) (rqn 5 (br ((List.getD (z10.2.2.2.2.2.2.2.2.2.2.2.2.2.2.2.2.2.2.1) 0 0) == (z10.2.2.2.2.2.2.2.2.2.2.2.2.2.2.2.2.2.2.2.2.1)) (rqn 7 (req true ((decide ((wI ((z10.2.2.2.2.2.2.2.2.2.2.2.2.2.2.2.2.2.1) - (z10.2.2.2.2.2.2.2.2.2.2.2.2.2.2.2.2.2.2.2.2.1))) ≤ 59)) = y))) (rqn 3 (req true (false = y))))))) (rqn 5 (req true (false = y))))))) (rqn 6 (br ((((List.length (z10.2.2.2.2.2.2.2.2.2.2.2.2.2.2.2.2.2.2.1)) : Nat) : Int) == 1) (req true (req (true && (decide (0 < (((List.length (z10.2.2.2.2.2.2.2.2.2.2.2.2.2.2.2.2.2.2.1)) : Nat) : Int)))) (rqn 5 (br ((List.getD (z10.2.2.2.2.2.2.2.2.2.2.2.2.2.2.2.2.2.2.1) 0 0) == (z10.2.2.2.2.2.2.2.2.2.2.2.2.2.2.2.2.2.2.2.2.1)) (rqn 7 (req true ((decide ((wI ((z10.2.2.2.2.2.2.2.2.2.2.2.2.2.2.2.2.2.1) - (z10.2.2.2.2.2.2.2.2.2.2.2.2.2.2.2.2.2.2.2.2.1))) ≤ 59)) = y))) (rqn 3 (req true (false = y))))))) (rqn 5 (req true (false = y)))))))))))))))))) y11))))))))))))))))))))))))))))))))) := by kernel_rfl
theorem q9_run (a0 : Int) (a1 : Bool) (a2 : Int) (a3 : Int) (a4 : Int) (a5 : Int) (a6 : Int) (a7 : Int) (a8 : Int) (a9 : Int) (a10 : Int) (a11 : Bool) (a12 : Int) (a13 : Int) (a14 : Int) (a15 : Int) (a16 : List Int) (a17 : Int) (y : Bool) (h : curfewlaw13_DueCatch_R a0 a1 a2 a3 a4 a5 a6 a7 a8 a9 a10 a11 a12 a13 a14 a15 a16 a17 y) : acall q9_cx okT q9_lp 60 (.fn 9 [] []) [(V.agg [(V.int .u32 a0), (V.bool a1), (V.int .u64 a2), (V.int .u64 a3), (V.int .u64 a4), (V.int .u64 a5), (V.int .u64 a6), (V.int .i64 a7), (V.int .i64 a8), (V.int .i64 a9), (V.int .i64 a10), (V.bool a11), (V.int .i64 a12), (V.int .u64 a13), (V.int .i64 a14), (V.int .i64 a15), (V.sl (.int .i64) a16 none)]), (V.int .i64 a17)] [] (leafK .bool y) := by
  refine cast (q9_tree a0 a1 a2 a3 a4 a5 a6 a7 a8 a9 a10 a11 a12 a13 a14 a15 a16 a17 y).symm ?_
  unfold curfewlaw13_DueCatch_R at h
  refine rqn_intro 2 ?_
  refine ex_both h fun y1 h => ?_
  refine req_intro rfl ?_
  refine br_both h (fun hb h => ?_) (fun hb h => ?_)
  · refine req_intro rfl ?_
    exact req_intro rfl h
  · refine rqn_intro 2 ?_
    refine ex_both h fun y2 h => ?_
    intro c3 hc3
    refine rqn_intro 2 ?_
    refine req_intro (band (band (band rfl (band rfl (band rfl (band rfl (band rfl (band rfl (band rfl (band rfl (band rfl (band rfl (band rfl (band rfl (band rfl (band rfl (band rfl (band rfl (band (Nat.beq_refl _) rfl))))))))))))))))) (band rfl rfl)) (band (band rfl (band rfl (band rfl (band rfl (band rfl (band rfl (band rfl (band rfl (band rfl (band rfl (band rfl (band rfl (band rfl (band rfl (band rfl (band rfl rfl)))))))))))))))) rfl)) ?_
    refine ex_both h fun y4 h => ?_
    refine rqn_intro 6 ?_
    refine req_intro (band rfl (band rfl (band rfl (band rfl (band rfl (band rfl (band rfl (band rfl (band rfl (band rfl (band rfl (band rfl (band rfl (band rfl (band rfl (band rfl (Nat.beq_refl _))))))))))))))))) ?_
    refine ex_both h fun y5 h => ?_
    refine rqn_intro 2 ?_
    refine br_both h (fun hb h => ?_) (fun hb h => ?_)
    · refine rqn_intro 7 ?_
      refine br_both h (fun hb h => ?_) (fun hb h => ?_)
      · refine rqn_intro 4 ?_
        exact req_intro rfl h
      · refine rqn_intro 2 ?_
        exact req_intro rfl h
    · refine rqn_intro 4 ?_
      refine br_both h (fun hb h => ?_) (fun hb h => ?_)
      · refine rqn_intro 5 ?_
        refine br_both h (fun hb h => ?_) (fun hb h => ?_)
        · refine rqn_intro 4 ?_
          exact req_intro rfl h
        · refine rqn_intro 2 ?_
          exact req_intro rfl h
      · refine rqn_intro 3 ?_
        refine br_both h (fun hb h => ?_) (fun hb h => ?_)
        · refine rqn_intro 4 ?_
          refine br_both h (fun hb h => ?_) (fun hb h => ?_)
          · refine rqn_intro 4 ?_
            exact req_intro rfl h
          · refine rqn_intro 2 ?_
            exact req_intro rfl h
        · refine rqn_intro 3 ?_
          refine br_both h (fun hb h => ?_) (fun hb h => ?_)
          · refine rqn_intro 7 ?_
            refine br_both h (fun hb h => ?_) (fun hb h => ?_)
            · refine rqn_intro 6 ?_
              exact req_intro rfl h
            · refine rqn_intro 2 ?_
              exact req_intro rfl h
          · refine rqn_intro 5 ?_
            refine br_both h (fun hb h => ?_) (fun hb h => ?_)
            · refine rqn_intro 5 ?_
              refine br_both h (fun hb h => ?_) (fun hb h => ?_)
              · refine rqn_intro 6 ?_
                exact req_intro rfl h
              · refine rqn_intro 2 ?_
                exact req_intro rfl h
            · refine rqn_intro 5 ?_
              refine br_both h (fun hb h => ?_) (fun hb h => ?_)
              · refine rqn_intro 4 ?_
                refine br_both h (fun hb h => ?_) (fun hb h => ?_)
                · refine rqn_intro 6 ?_
                  exact req_intro rfl h
                · refine rqn_intro 2 ?_
                  exact req_intro rfl h
              · refine rqn_intro 4 ?_
                refine ex_both h fun y6 h => ?_
                refine rqn_intro 8 ?_
                refine br_both h (fun hb h => ?_) (fun hb h => ?_)
                · refine rqn_intro 2 ?_
                  exact req_intro rfl h
                · refine rqn_intro 5 ?_
                  refine br_both h (fun hb h => ?_) (fun hb h => ?_)
                  · refine req_intro rfl ?_
                    exact req_intro rfl h
                  · refine rqn_intro 3 ?_
                    obtain ⟨y11, ry11, h⟩ := h
                    refine ⟨rfl, rfl, (((((((((((((((((y2.2).2).2).2).2).2).2).2).2).2).2).2).2).2).2).2), (y2.1), ((y2.2).1), (((y2.2).2).1), ((((y2.2).2).2).1), (((((y2.2).2).2).2).1), ((((((y2.2).2).2).2).2).1), (((((((y2.2).2).2).2).2).2).1), ((((((((y2.2).2).2).2).2).2).2).1), (((((((((y2.2).2).2).2).2).2).2).2).1), ((((((((((y2.2).2).2).2).2).2).2).2).2).1), (((((((((((y2.2).2).2).2).2).2).2).2).2).2).1), ((((((((((((y2.2).2).2).2).2).2).2).2).2).2).2).1), (((((((((((((y2.2).2).2).2).2).2).2).2).2).2).2).2).1), ((((((((((((((y2.2).2).2).2).2).2).2).2).2).2).2).2).2).1), (((((((((((((((y2.2).2).2).2).2).2).2).2).2).2).2).2).2).2).1), ((((((((((((((((y2.2).2).2).2).2).2).2).2).2).2).2).2).2).2).2).1), a17, (y4.1), (y4.2), (y6.1), (((List.length (y4.1)) : Nat) : Int), 0), c3, y11, rfl, ⟨(), wk_of (Or.inr ⟨⟨Or.inl rfl, Or.inl rfl, Or.inl rfl, Or.inl rfl, Or.inl rfl, Or.inl rfl, Or.inl rfl, Or.inl rfl, trivial⟩, ⟨Or.inr (Or.inl rfl), Or.inl rfl, Or.inl rfl, trivial⟩, rfl, rfl, rfl⟩)⟩, ry11, ?_⟩
                    refine sume_both h (fun y11 h => ?_) (fun y11 h => ?_)
                    · exact req_intro rfl h
                    · refine rqn_intro 4 ?_
                      refine ex_both h fun y12 h => ?_
                      refine rqn_intro 7 ?_
                      refine br_both h (fun hb h => ?_) (fun hb h => ?_)
                      · refine rqn_intro 5 ?_
                        refine br_both h (fun hb h => ?_) (fun hb h => ?_)
                        · refine rqn_intro 2 ?_
                          exact req_intro rfl h
                        · refine rqn_intro 3 ?_
                          refine br_both h (fun hb h => ?_) (fun hb h => ?_)
                          · refine rqn_intro 4 ?_
                            refine br_both h (fun hb h => ?_) (fun hb h => ?_)
                            · refine req_intro rfl ?_
                              exact req_intro rfl h
                            · refine rqn_intro 5 ?_
                              refine br_both h (fun hb h => ?_) (fun hb h => ?_)
                              · refine rqn_intro 5 ?_
                                refine br_both h (fun hb h => ?_) (fun hb h => ?_)
                                · refine rqn_intro 5 ?_
                                  refine br_both h (fun hb h => ?_) (fun hb h => ?_)
                                  · refine req_intro rfl ?_
                                    obtain ⟨q, h⟩ := req_of h
                                    refine req_intro (band rfl q) ?_
                                    refine rqn_intro 6 ?_
                                    refine br_both h (fun hb h => ?_) (fun hb h => ?_)
                                    · refine rqn_intro 4 ?_
                                      refine br_both h (fun hb h => ?_) (fun hb h => ?_)
                                      · refine rqn_intro 3 ?_
                                        exact req_intro rfl h
                                      · refine rqn_intro 4 ?_
                                        obtain ⟨q, h⟩ := req_of h
                                        refine req_intro (band (band_l q) (band_r q)) ?_
                                        refine rqn_intro 6 ?_
                                        exact req_intro rfl h
                                    · refine rqn_intro 2 ?_
                                      exact req_intro rfl h
                                  · refine rqn_intro 4 ?_
                                    exact req_intro rfl h
                                · refine rqn_intro 6 ?_
                                  exact req_intro rfl h
                              · refine rqn_intro 2 ?_
                                refine br_both h (fun hb h => ?_) (fun hb h => ?_)
                                · refine rqn_intro 4 ?_
                                  refine br_both h (fun hb h => ?_) (fun hb h => ?_)
                                  · refine req_intro rfl ?_
                                    obtain ⟨q, h⟩ := req_of h
                                    refine req_intro (band rfl q) ?_
                                    refine rqn_intro 5 ?_
                                    exact req_intro rfl h
                                  · refine rqn_intro 2 ?_
                                    exact req_intro rfl h
                                · refine rqn_intro 4 ?_
                                  refine br_both h (fun hb h => ?_) (fun hb h => ?_)
                                  · refine rqn_intro 6 ?_
                                    refine br_both h (fun hb h => ?_) (fun hb h => ?_)
                                    · refine rqn_intro 2 ?_
                                      exact req_intro rfl h
                                    · refine rqn_intro 4 ?_
                                      refine br_both h (fun hb h => ?_) (fun hb h => ?_)
                                      · refine req_intro rfl ?_
                                        obtain ⟨q, h⟩ := req_of h
                                        refine req_intro (band rfl q) ?_
                                        refine rqn_intro 5 ?_
                                        refine br_both h (fun hb h => ?_) (fun hb h => ?_)
                                        · refine rqn_intro 7 ?_
                                          exact req_intro rfl h
                                        · refine rqn_intro 3 ?_
                                          exact req_intro rfl h
                                      · refine rqn_intro 5 ?_
                                        exact req_intro rfl h
                                  · refine rqn_intro 6 ?_
                                    refine br_both h (fun hb h => ?_) (fun hb h => ?_)
                                    · refine req_intro rfl ?_
                                      obtain ⟨q, h⟩ := req_of h
                                      refine req_intro (band rfl q) ?_
                                      refine rqn_intro 5 ?_
                                      refine br_both h (fun hb h => ?_) (fun hb h => ?_)
                                      · refine rqn_intro 7 ?_
                                        exact req_intro rfl h
                                      · refine rqn_intro 3 ?_
                                        exact req_intro rfl h
                                    · refine rqn_intro 5 ?_
                                      exact req_intro rfl h
                          · refine rqn_intro 7 ?_
                            refine br_both h (fun hb h => ?_) (fun hb h => ?_)
                            · refine rqn_intro 5 ?_
                              refine br_both h (fun hb h => ?_) (fun hb h => ?_)
                              · refine rqn_intro 5 ?_
                                refine br_both h (fun hb h => ?_) (fun hb h => ?_)
                                · refine req_intro rfl ?_
                                  obtain ⟨q, h⟩ := req_of h
                                  refine req_intro (band rfl q) ?_
                                  refine rqn_intro 6 ?_
                                  refine br_both h (fun hb h => ?_) (fun hb h => ?_)
                                  · refine rqn_intro 4 ?_
                                    refine br_both h (fun hb h => ?_) (fun hb h => ?_)
                                    · refine rqn_intro 3 ?_
                                      exact req_intro rfl h
                                    · refine rqn_intro 4 ?_
                                      obtain ⟨q, h⟩ := req_of h
                                      refine req_intro (band (band_l q) (band_r q)) ?_
                                      refine rqn_intro 6 ?_
                                      exact req_intro rfl h
                                  · refine rqn_intro 2 ?_
                                    exact req_intro rfl h
                                · refine rqn_intro 4 ?_
                                  exact req_intro rfl h
                              · refine rqn_intro 6 ?_
                                exact req_intro rfl h
                            · refine rqn_intro 2 ?_
                              refine br_both h (fun hb h => ?_) (fun hb h => ?_)
                              · refine rqn_intro 4 ?_
                                refine br_both h (fun hb h => ?_) (fun hb h => ?_)
                                · refine req_intro rfl ?_
                                  obtain ⟨q, h⟩ := req_of h
                                  refine req_intro (band rfl q) ?_
                                  refine rqn_intro 5 ?_
                                  exact req_intro rfl h
                                · refine rqn_intro 2 ?_
                                  exact req_intro rfl h
                              · refine rqn_intro 4 ?_
                                refine br_both h (fun hb h => ?_) (fun hb h => ?_)
                                · refine rqn_intro 6 ?_
                                  refine br_both h (fun hb h => ?_) (fun hb h => ?_)
                                  · refine rqn_intro 2 ?_
                                    exact req_intro rfl h
                                  · refine rqn_intro 4 ?_
                                    refine br_both h (fun hb h => ?_) (fun hb h => ?_)
                                    · refine req_intro rfl ?_
                                      obtain ⟨q, h⟩ := req_of h
                                      refine req_intro (band rfl q) ?_
                                      refine rqn_intro 5 ?_
                                      refine br_both h (fun hb h => ?_) (fun hb h => ?_)
                                      · refine rqn_intro 7 ?_
                                        exact req_intro rfl h
                                      · refine rqn_intro 3 ?_
                                        exact req_intro rfl h
                                    · refine rqn_intro 5 ?_
                                      exact req_intro rfl h
                                · refine rqn_intro 6 ?_
                                  refine br_both h (fun hb h => ?_) (fun hb h => ?_)
                                  · refine req_intro rfl ?_
                                    obtain ⟨q, h⟩ := req_of h
                                    refine req_intro (band rfl q) ?_
                                    refine rqn_intro 5 ?_
                                    refine br_both h (fun hb h => ?_) (fun hb h => ?_)
                                    · refine rqn_intro 7 ?_
                                      exact req_intro rfl h
                                    · refine rqn_intro 3 ?_
                                      exact req_intro rfl h
                                  · refine rqn_intro 5 ?_
                                    exact req_intro rfl h
                      · refine rqn_intro 5 ?_
                        refine br_both h (fun hb h => ?_) (fun hb h => ?_)
                        · refine rqn_intro 4 ?_
                          refine br_both h (fun hb h => ?_) (fun hb h => ?_)
                          · refine req_intro rfl ?_
                            exact req_intro rfl h
                          · refine rqn_intro 5 ?_
                            refine br_both h (fun hb h => ?_) (fun hb h => ?_)
                            · refine rqn_intro 5 ?_
                              refine br_both h (fun hb h => ?_) (fun hb h => ?_)
                              · refine rqn_intro 5 ?_
                                refine br_both h (fun hb h => ?_) (fun hb h => ?_)
                                · refine req_intro rfl ?_
                                  obtain ⟨q, h⟩ := req_of h
                                  refine req_intro (band rfl q) ?_
                                  refine rqn_intro 6 ?_
                                  refine br_both h (fun hb h => ?_) (fun hb h => ?_)
                                  · refine rqn_intro 4 ?_
                                    refine br_both h (fun hb h => ?_) (fun hb h => ?_)
                                    · refine rqn_intro 3 ?_
                                      exact req_intro rfl h
                                    · refine rqn_intro 4 ?_
                                      obtain ⟨q, h⟩ := req_of h
                                      refine req_intro (band (band_l q) (band_r q)) ?_
                                      refine rqn_intro 6 ?_
                                      exact req_intro rfl h
                                  · refine rqn_intro 2 ?_
                                    exact req_intro rfl h
                                · refine rqn_intro 4 ?_
                                  exact req_intro rfl h
                              · refine rqn_intro 6 ?_
                                exact req_intro rfl h
                            · refine rqn_intro 2 ?_
                              refine br_both h (fun hb h => ?_) (fun hb h => ?_)
                              · refine rqn_intro 4 ?_
                                refine br_both h (fun hb h => ?_) (fun hb h => ?_)
                                · refine req_intro rfl ?_
                                  obtain ⟨q, h⟩ := req_of h
                                  refine req_intro (band rfl q) ?_
                                  refine rqn_intro 5 ?_
                                  exact req_intro rfl h
                                · refine rqn_intro 2 ?_
                                  exact req_intro rfl h
                              · refine rqn_intro 4 ?_
                                refine br_both h (fun hb h => ?_) (fun hb h => ?_)
                                · refine rqn_intro 6 ?_
                                  refine br_both h (fun hb h => ?_) (fun hb h => ?_)
                                  · refine rqn_intro 2 ?_
                                    exact req_intro rfl h
                                  · refine rqn_intro 4 ?_
                                    refine br_both h (fun hb h => ?_) (fun hb h => ?_)
                                    · refine req_intro rfl ?_
                                      obtain ⟨q, h⟩ := req_of h
                                      refine req_intro (band rfl q) ?_
                                      refine rqn_intro 5 ?_
                                      refine br_both h (fun hb h => ?_) (fun hb h => ?_)
                                      · refine rqn_intro 7 ?_
                                        exact req_intro rfl h
                                      · refine rqn_intro 3 ?_
                                        exact req_intro rfl h
                                    · refine rqn_intro 5 ?_
                                      exact req_intro rfl h
                                · refine rqn_intro 6 ?_
                                  refine br_both h (fun hb h => ?_) (fun hb h => ?_)
                                  · refine req_intro rfl ?_
                                    obtain ⟨q, h⟩ := req_of h
                                    refine req_intro (band rfl q) ?_
                                    refine rqn_intro 5 ?_
                                    refine br_both h (fun hb h => ?_) (fun hb h => ?_)
                                    · refine rqn_intro 7 ?_
                                      exact req_intro rfl h
                                    · refine rqn_intro 3 ?_
                                      exact req_intro rfl h
                                  · refine rqn_intro 5 ?_
                                    exact req_intro rfl h
                        · refine rqn_intro 7 ?_
                          refine br_both h (fun hb h => ?_) (fun hb h => ?_)
                          · refine rqn_intro 5 ?_
                            refine br_both h (fun hb h => ?_) (fun hb h => ?_)
                            · refine rqn_intro 5 ?_
                              refine br_both h (fun hb h => ?_) (fun hb h => ?_)
                              · refine req_intro rfl ?_
                                obtain ⟨q, h⟩ := req_of h
                                refine req_intro (band rfl q) ?_
                                refine rqn_intro 6 ?_
                                refine br_both h (fun hb h => ?_) (fun hb h => ?_)
                                · refine rqn_intro 4 ?_
                                  refine br_both h (fun hb h => ?_) (fun hb h => ?_)
                                  · refine rqn_intro 3 ?_
                                    exact req_intro rfl h
                                  · refine rqn_intro 4 ?_
                                    obtain ⟨q, h⟩ := req_of h
                                    refine req_intro (band (band_l q) (band_r q)) ?_
                                    refine rqn_intro 6 ?_
                                    exact req_intro rfl h
                                · refine rqn_intro 2 ?_
                                  exact req_intro rfl h
                              · refine rqn_intro 4 ?_
                                exact req_intro rfl h
                            · refine rqn_intro 6 ?_
                              exact req_intro rfl h
                          · refine rqn_intro 2 ?_
                            refine br_both h (fun hb h => ?_) (fun hb h => ?_)
                            · refine rqn_intro 4 ?_
                              refine br_both h (fun hb h => ?_) (fun hb h => ?_)
                              · refine req_intro rfl ?_
                                obtain ⟨q, h⟩ := req_of h
                                refine req_intro (band rfl q) ?_
                                refine rqn_intro 5 ?_
                                exact req_intro rfl h
                              · refine rqn_intro 2 ?_
                                exact req_intro rfl h
                            · refine rqn_intro 4 ?_
                              refine br_both h (fun hb h => ?_) (fun hb h => ?_)
                              · refine rqn_intro 6 ?_
                                refine br_both h (fun hb h => ?_) (fun hb h => ?_)
                                · refine rqn_intro 2 ?_
                                  exact req_intro rfl h
                                · refine rqn_intro 4 ?_
                                  refine br_both h (fun hb h => ?_) (fun hb h => ?_)
                                  · refine req_intro rfl ?_
                                    obtain ⟨q, h⟩ := req_of h
                                    refine req_intro (band rfl q) ?_
                                    refine rqn_intro 5 ?_
                                    refine br_both h (fun hb h => ?_) (fun hb h => ?_)
                                    · refine rqn_intro 7 ?_
                                      exact req_intro rfl h
                                    · refine rqn_intro 3 ?_
                                      exact req_intro rfl h
                                  · refine rqn_intro 5 ?_
                                    exact req_intro rfl h
                              · refine rqn_intro 6 ?_
                                refine br_both h (fun hb h => ?_) (fun hb h => ?_)
                                · refine req_intro rfl ?_
                                  obtain ⟨q, h⟩ := req_of h
                                  refine req_intro (band rfl q) ?_
                                  refine rqn_intro 5 ?_
                                  refine br_both h (fun hb h => ?_) (fun hb h => ?_)
                                  · refine rqn_intro 7 ?_
                                    exact req_intro rfl h
                                  · refine rqn_intro 3 ?_
                                    exact req_intro rfl h
                                · refine rqn_intro 5 ?_
                                  exact req_intro rfl h
theorem curfewlaw13_DueCatch_ok : FxOk Tryd.prog gsT 9 (.cons (.agg (.cons (.int .u32) (.cons .bool (.cons (.int .u64) (.cons (.int .u64) (.cons (.int .u64) (.cons (.int .u64) (.cons (.int .u64) (.cons (.int .i64) (.cons (.int .i64) (.cons (.int .i64) (.cons (.int .i64) (.cons .bool (.cons (.int .i64) (.cons (.int .u64) (.cons (.int .i64) (.cons (.int .i64) (.one (.sl (.int .i64)))))))))))))))))))) (.one (.int .i64))) .bool fun x y => curfewlaw13_DueCatch_R (x.1.1) (x.1.2.1) (x.1.2.2.1) (x.1.2.2.2.1) (x.1.2.2.2.2.1) (x.1.2.2.2.2.2.1) (x.1.2.2.2.2.2.2.1) (x.1.2.2.2.2.2.2.2.1) (x.1.2.2.2.2.2.2.2.2.1) (x.1.2.2.2.2.2.2.2.2.2.1) (x.1.2.2.2.2.2.2.2.2.2.2.1) (x.1.2.2.2.2.2.2.2.2.2.2.2.1) (x.1.2.2.2.2.2.2.2.2.2.2.2.2.1) (x.1.2.2.2.2.2.2.2.2.2.2.2.2.2.1) (x.1.2.2.2.2.2.2.2.2.2.2.2.2.2.2.1) (x.1.2.2.2.2.2.2.2.2.2.2.2.2.2.2.2.1) (x.1.2.2.2.2.2.2.2.2.2.2.2.2.2.2.2.2) (x.2) y := fx_of (c := q9_cx) (ty_ok rfl) (eq_ok rfl) q9_fns follows_ok (ok := okT) (lp := q9_lp) (n := 60) q9_lpok (enters Tryd.func9 (by kernel_rfl) rfl) (fun y => ⟨_, rfl⟩) fun x y h => q9_run _ _ _ _ _ _ _ _ _ _ _ _ _ _ _ _ _ _ y h
end Go.Proofs.YtiffoefhadgdnaaDoor
