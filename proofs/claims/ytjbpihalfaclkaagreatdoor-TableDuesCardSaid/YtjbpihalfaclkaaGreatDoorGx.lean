/- What Go functions come to (printed by gb.py). -/
import Derived.Test.YtjbpihalfaclkaaGreatDoorGxb
namespace Go.Proofs.YtjbpihalfaclkaaGreatDoor
open Go Go.B Go.RowKit
set_option linter.unusedVariables false
set_option linter.unusedSimpArgs false
set_option maxRecDepth 100000
attribute [local irreducible] Go.B.acall Go.B.acode
def table_Dues_l0_F (i : Ip) (l : table_Dues_l0_Z → table_Dues_l0_Y → Prop) (z2x0 : List (Int × Int)) (z2x1 : List ((Int × Bool × (Int × Int × Int × Int × Int) × Int × Int × Int × Int) × Bool × Int × (Int × Int × Int) × List Int)) (z2x2 z2x3 : Int) (z2k0 : Nat) (y3_ : table_Dues_l0_Y) : Prop :=
  (br (decide (z2x3 < z2x2)) (i.rq ((decide (0 ≤ z2x3)) && (decide (z2x3 < (((List.length z2x1) : Nat) : Int)))) (br (((((List.getD z2x1 (Int.toNat z2x3) ((0, (false, ((0, (0, (0, (0, 0)))), (0, (0, (0, 0)))))), (false, (0, ((0, (0, 0)), []))))).2).2).1) != (-1)) (i.r2 (Nat.ble ((List.length (z2x0 ++ [(((((List.getD z2x1 (Int.toNat z2x3) ((0, (false, ((0, (0, (0, (0, 0)))), (0, (0, (0, 0)))))), (false, (0, ((0, (0, 0)), []))))).2).2).1), (IntKind.wrap .u64 (((List.getD z2x1 (Int.toNat z2x3) ((0, (false, ((0, (0, (0, (0, 0)))), (0, (0, (0, 0)))))), (false, (0, ((0, (0, 0)), []))))).1).1)))])) * 17) 140737488355328) (((((true && (true && true)) && true) && (Nat.beq (List.length z2x0) (List.length z2x0))) && (Nat.beq z2k0 z2k0)) && (Nat.ble ((List.length (z2x0 ++ [(((((List.getD z2x1 (Int.toNat z2x3) ((0, (false, ((0, (0, (0, (0, 0)))), (0, (0, (0, 0)))))), (false, (0, ((0, (0, 0)), []))))).2).2).1), (IntKind.wrap .u64 (((List.getD z2x1 (Int.toNat z2x3) ((0, (false, ((0, (0, (0, (0, 0)))), (0, (0, (0, 0)))))), (false, (0, ((0, (0, 0)), []))))).1).1)))])) * 17) 140737488355328)) (fun q => (band (band (band (band (band rfl (band rfl rfl)) rfl) (Nat.beq_refl _)) (Nat.beq_refl _)) q)) (i.cp (List.length (z2x0 ++ [(((((List.getD z2x1 (Int.toNat z2x3) ((0, (false, ((0, (0, (0, (0, 0)))), (0, (0, (0, 0)))))), (false, (0, ((0, (0, 0)), []))))).2).2).1), (IntKind.wrap .u64 (((List.getD z2x1 (Int.toNat z2x3) ((0, (false, ((0, (0, (0, (0, 0)))), (0, (0, (0, 0)))))), (false, (0, ((0, (0, 0)), []))))).1).1)))])) fun c4 hc4 => (i.te [(V.row 0 2 (List.length (z2x0 ++ [(((((List.getD z2x1 (Int.toNat z2x3) ((0, (false, ((0, (0, (0, (0, 0)))), (0, (0, (0, 0)))))), (false, (0, ((0, (0, 0)), []))))).2).2).1), (IntKind.wrap .u64 (((List.getD z2x1 (Int.toNat z2x3) ((0, (false, ((0, (0, (0, (0, 0)))), (0, (0, (0, 0)))))), (false, (0, ((0, (0, 0)), []))))).1).1)))])) c4)] [] (l ((z2x0 ++ [(((((List.getD z2x1 (Int.toNat z2x3) ((0, (false, ((0, (0, (0, (0, 0)))), (0, (0, (0, 0)))))), (false, (0, ((0, (0, 0)), []))))).2).2).1), (IntKind.wrap .u64 (((List.getD z2x1 (Int.toNat z2x3) ((0, (false, ((0, (0, (0, (0, 0)))), (0, (0, (0, 0)))))), (false, (0, ((0, (0, 0)), []))))).1).1)))]), z2x1, z2x2, (IntKind.wrap .i64 (z2x3 + 1))) y3_)))) (i.te [(V.row 0 2 (List.length z2x0) z2k0)] [] (l (z2x0, z2x1, z2x2, (IntKind.wrap .i64 (z2x3 + 1))) y3_)))) (i.te [(V.row 0 2 (List.length z2x0) z2k0)] [] (z2x0 = y3_)))
def table_Dues_l0 : Nat → table_Dues_l0_Z → table_Dues_l0_Y → Prop
  | 0, _, _ => False
  | k + 1, (z2x0, z2x1, z2x2, z2x3), y3_ => (br (decide (z2x3 < z2x2)) (req ((decide (0 ≤ z2x3)) && (decide (z2x3 < (((List.length z2x1) : Nat) : Int)))) (br (((((List.getD z2x1 (Int.toNat z2x3) ((0, (false, ((0, (0, (0, (0, 0)))), (0, (0, (0, 0)))))), (false, (0, ((0, (0, 0)), []))))).2).2).1) != (-1)) (req (Nat.ble ((List.length (z2x0 ++ [(((((List.getD z2x1 (Int.toNat z2x3) ((0, (false, ((0, (0, (0, (0, 0)))), (0, (0, (0, 0)))))), (false, (0, ((0, (0, 0)), []))))).2).2).1), (IntKind.wrap .u64 (((List.getD z2x1 (Int.toNat z2x3) ((0, (false, ((0, (0, (0, (0, 0)))), (0, (0, (0, 0)))))), (false, (0, ((0, (0, 0)), []))))).1).1)))])) * 17) 140737488355328) (table_Dues_l0 k ((z2x0 ++ [(((((List.getD z2x1 (Int.toNat z2x3) ((0, (false, ((0, (0, (0, (0, 0)))), (0, (0, (0, 0)))))), (false, (0, ((0, (0, 0)), []))))).2).2).1), (IntKind.wrap .u64 (((List.getD z2x1 (Int.toNat z2x3) ((0, (false, ((0, (0, (0, (0, 0)))), (0, (0, (0, 0)))))), (false, (0, ((0, (0, 0)), []))))).1).1)))]), z2x1, z2x2, (IntKind.wrap .i64 (z2x3 + 1))) y3_)) (table_Dues_l0 k (z2x0, z2x1, z2x2, (IntKind.wrap .i64 (z2x3 + 1))) y3_))) (z2x0 = y3_))
def table_Dues_l0_L (z : table_Dues_l0_Z) (y : table_Dues_l0_Y) : Prop := ∃ k, table_Dues_l0 k z y
noncomputable def q34_0_lp : Lp := .auto none q34_0_body (loopK q34_0_k fun z y => ∃ k, table_Dues_l0 k z y)
noncomputable def q34_1_body : Code := subC [1, 0, 0, 1, 0, 0, 1, 0, 0] (bodyOf Tryz.f197)
abbrev table_Dues_l1_Z : Type := (List (Int × Int)) × Int × Int × Int
abbrev table_Dues_l1_Y : Type := (List (Int × Int)) × Int × Bool × Bool
noncomputable def q34_1_k : LK := ⟨1, ⟨[(0, .row 0 2 (.z 0) (.q 0)), (1, .li .i64 0), (2, .w 1), (3, .fn 77 [] []), (8, .w 2), (9, .w 3)], [.row (.pr (.int .i64) (.int .u64)) (.z 0) 67 (.q 0)], []⟩, [.sl (.pr (.int .i64) (.int .u64)), .int .i64, .int .i64, .int .i64], [.nat], [], [1, 2], [⟨(.exit 2), ⟨[(0, .row 0 2 (.z 0) (.p 2)), (1, .li .i64 0), (2, .e (.p 0)), (3, .fn 77 [] []), (8, .e (.p 1)), (18, .w 1), (19, .li .i64 0), (20, .w 2), (21, .w 3)], [.row (.pr (.int .i64) (.int .u64)) (.z 0) 67 (.p 2)], []⟩, [.sl (.pr (.int .i64) (.int .u64)), .int .i64, .bool, .bool], [], none⟩]⟩
def table_Dues_l1_F (i : Ip) (l : table_Dues_l1_Z → table_Dues_l1_Y → Prop) (z12x0 : List (Int × Int)) (z12x1 z12x2 z12x3 : Int) (z12q0 : Nat) (y13_ : table_Dues_l1_Y) : Prop :=
  (br (decide (z12x3 > 0)) (i.rq ((decide (0 ≤ z12x3)) && (decide (z12x3 < (((List.length z12x0) : Nat) : Int)))) (i.rq (Nat.blt (Int.toNat z12x3) (List.length z12x0)) (i.rq ((decide (0 ≤ (IntKind.wrap .i64 (z12x3 - 1)))) && (decide ((IntKind.wrap .i64 (z12x3 - 1)) < (((List.length z12x0) : Nat) : Int)))) (i.rq (Nat.blt (Int.toNat (IntKind.wrap .i64 (z12x3 - 1))) (List.length z12x0)) (∃ y14 : Int, (cmp_Compare_int64_R ((List.getD z12x0 (Int.toNat z12x3) (0, 0)).1) ((List.getD z12x0 (Int.toNat (IntKind.wrap .i64 (z12x3 - 1))) (0, 0)).1) y14) ∧ (∃ y15 : Int, (cmp_Compare_uint64_R ((List.getD z12x0 (Int.toNat z12x3) (0, 0)).2) ((List.getD z12x0 (Int.toNat (IntKind.wrap .i64 (z12x3 - 1))) (0, 0)).2) y15) ∧ (∃ y16 : Int, (cmp_Or_int_R [y14, y15] y16) ∧ (br (decide (y16 < 0)) (i.rq ((decide (0 ≤ (IntKind.wrap .i64 (z12x3 - 1)))) && (decide ((IntKind.wrap .i64 (z12x3 - 1)) < (((List.length z12x0) : Nat) : Int)))) (i.rq (Nat.blt (Int.toNat (IntKind.wrap .i64 (z12x3 - 1))) (List.length z12x0)) (i.rq ((decide (0 ≤ z12x3)) && (decide (z12x3 < (((List.length z12x0) : Nat) : Int)))) (i.rq (Nat.blt (Int.toNat z12x3) (List.length z12x0)) (i.rq ((decide (0 ≤ z12x3)) && (decide (z12x3 < (((List.length z12x0) : Nat) : Int)))) (i.r2 (Nat.blt (Int.toNat z12x3) (List.length z12x0)) ((true && (true && true)) && (Nat.blt (Int.toNat z12x3) (List.length z12x0))) (fun q => (band (band rfl (band rfl rfl)) q)) (i.rq ((decide (0 ≤ (IntKind.wrap .i64 (z12x3 - 1)))) && (decide ((IntKind.wrap .i64 (z12x3 - 1)) < (((List.length z12x0) : Nat) : Int)))) (i.r2 (Nat.blt (Int.toNat (IntKind.wrap .i64 (z12x3 - 1))) (List.length (List.set z12x0 (Int.toNat z12x3) (List.getD z12x0 (Int.toNat (IntKind.wrap .i64 (z12x3 - 1))) (0, 0))))) ((true && (true && true)) && (Nat.blt (Int.toNat (IntKind.wrap .i64 (z12x3 - 1))) (List.length (List.set z12x0 (Int.toNat z12x3) (List.getD z12x0 (Int.toNat (IntKind.wrap .i64 (z12x3 - 1))) (0, 0)))))) (fun q => (band (band rfl (band rfl rfl)) q)) (i.tf [(V.row 0 2 (List.length z12x0) z12q0)] [(V.row 0 2 (List.length (List.set (List.set z12x0 (Int.toNat z12x3) (List.getD z12x0 (Int.toNat (IntKind.wrap .i64 (z12x3 - 1))) (0, 0))) (Int.toNat (IntKind.wrap .i64 (z12x3 - 1))) (List.getD z12x0 (Int.toNat z12x3) (0, 0)))) z12q0)] (by simp only [List.length_set]) [] (i.tq [(vi z12x1), (vi z12x2), (V.yld z12q0)] (l ((List.set (List.set z12x0 (Int.toNat z12x3) (List.getD z12x0 (Int.toNat (IntKind.wrap .i64 (z12x3 - 1))) (0, 0))) (Int.toNat (IntKind.wrap .i64 (z12x3 - 1))) (List.getD z12x0 (Int.toNat z12x3) (0, 0))), z12x1, z12x2, (IntKind.wrap .i64 (z12x3 - 1))) y13_))))))))))) (i.te [(V.yld z12q0), (V.row 0 2 (List.length z12x0) z12q0), (vi z12x1), (vi z12x2)] [] ((z12x0, z12x3, (decide (z12x3 > 0)), true) = y13_)))))))))) (i.te [(V.yld z12q0), (V.row 0 2 (List.length z12x0) z12q0), (vi z12x1), (vi z12x2)] [] ((z12x0, z12x3, (decide (z12x3 > 0)), false) = y13_)))
def table_Dues_l1 : Nat → table_Dues_l1_Z → table_Dues_l1_Y → Prop
  | 0, _, _ => False
  | k + 1, (z12x0, z12x1, z12x2, z12x3), y13_ => (br (decide (z12x3 > 0)) (req ((decide (0 ≤ z12x3)) && (decide (z12x3 < (((List.length z12x0) : Nat) : Int)))) (req (Nat.blt (Int.toNat z12x3) (List.length z12x0)) (req ((decide (0 ≤ (IntKind.wrap .i64 (z12x3 - 1)))) && (decide ((IntKind.wrap .i64 (z12x3 - 1)) < (((List.length z12x0) : Nat) : Int)))) (req (Nat.blt (Int.toNat (IntKind.wrap .i64 (z12x3 - 1))) (List.length z12x0)) (∃ y14 : Int, (cmp_Compare_int64_R ((List.getD z12x0 (Int.toNat z12x3) (0, 0)).1) ((List.getD z12x0 (Int.toNat (IntKind.wrap .i64 (z12x3 - 1))) (0, 0)).1) y14) ∧ (∃ y15 : Int, (cmp_Compare_uint64_R ((List.getD z12x0 (Int.toNat z12x3) (0, 0)).2) ((List.getD z12x0 (Int.toNat (IntKind.wrap .i64 (z12x3 - 1))) (0, 0)).2) y15) ∧ (∃ y16 : Int, (cmp_Or_int_R [y14, y15] y16) ∧ (br (decide (y16 < 0)) (req ((decide (0 ≤ (IntKind.wrap .i64 (z12x3 - 1)))) && (decide ((IntKind.wrap .i64 (z12x3 - 1)) < (((List.length z12x0) : Nat) : Int)))) (req (Nat.blt (Int.toNat (IntKind.wrap .i64 (z12x3 - 1))) (List.length z12x0)) (req ((decide (0 ≤ z12x3)) && (decide (z12x3 < (((List.length z12x0) : Nat) : Int)))) (req (Nat.blt (Int.toNat z12x3) (List.length z12x0)) (req ((decide (0 ≤ z12x3)) && (decide (z12x3 < (((List.length z12x0) : Nat) : Int)))) (req (Nat.blt (Int.toNat z12x3) (List.length z12x0)) (req ((decide (0 ≤ (IntKind.wrap .i64 (z12x3 - 1)))) && (decide ((IntKind.wrap .i64 (z12x3 - 1)) < (((List.length z12x0) : Nat) : Int)))) (req (Nat.blt (Int.toNat (IntKind.wrap .i64 (z12x3 - 1))) (List.length (List.set z12x0 (Int.toNat z12x3) (List.getD z12x0 (Int.toNat (IntKind.wrap .i64 (z12x3 - 1))) (0, 0))))) (table_Dues_l1 k ((List.set (List.set z12x0 (Int.toNat z12x3) (List.getD z12x0 (Int.toNat (IntKind.wrap .i64 (z12x3 - 1))) (0, 0))) (Int.toNat (IntKind.wrap .i64 (z12x3 - 1))) (List.getD z12x0 (Int.toNat z12x3) (0, 0))), z12x1, z12x2, (IntKind.wrap .i64 (z12x3 - 1))) y13_))))))))) ((z12x0, z12x3, (decide (z12x3 > 0)), true) = y13_))))))))) ((z12x0, z12x3, (decide (z12x3 > 0)), false) = y13_))
def table_Dues_l1_L (z : table_Dues_l1_Z) (y : table_Dues_l1_Y) : Prop := ∃ k, table_Dues_l1 k z y
noncomputable def q34_1_lp : Lp := .auto none q34_1_body (loopK q34_1_k fun z y => ∃ k, table_Dues_l1 k z y)
noncomputable def q34_2_body : Code := subC [1, 0, 0] (bodyOf Tryz.f197)
abbrev table_Dues_l2_Z : Type := (List (Int × Int)) × Int × Int
abbrev table_Dues_l2_Y : Type := List (Int × Int)
noncomputable def q34_2_k : LK := ⟨1, ⟨[(0, .row 0 2 (.z 0) (.q 0)), (1, .li .i64 0), (2, .w 1), (3, .fn 77 [] []), (8, .w 2)], [.row (.pr (.int .i64) (.int .u64)) (.z 0) 67 (.q 0)], []⟩, [.sl (.pr (.int .i64) (.int .u64)), .int .i64, .int .i64], [.nat], [], [], [⟨(.exit 0), ⟨[], [.row (.pr (.int .i64) (.int .u64)) (.z 0) 67 (.p 0)], []⟩, [.sl (.pr (.int .i64) (.int .u64))], [], none⟩]⟩
def table_Dues_l2_F (i : Ip) (l : table_Dues_l2_Z → table_Dues_l2_Y → Prop) (z10x0 : List (Int × Int)) (z10x1 z10x2 : Int) (z10q0 : Nat) (y11_ : table_Dues_l2_Y) : Prop :=
  (br (decide (z10x2 < z10x1)) (i.lo none q34_1_body (i.te [(V.row 0 2 (List.length z10x0) z10q0)] [] (∃ y18 : table_Dues_l1_Y, table_Dues_l1_L (z10x0, z10x1, z10x2, z10x2) y18 ∧ (i.te [(V.row 0 2 (List.length (y18.1)) z10q0)] [] (i.tq [(V.yld z10q0)] (l ((y18.1), z10x1, (IntKind.wrap .i64 (z10x2 + 1))) y11_)))))) (i.te [(V.yld z10q0)] [] (z10x0 = y11_)))
def table_Dues_l2 : Nat → table_Dues_l2_Z → table_Dues_l2_Y → Prop
  | 0, _, _ => False
  | k + 1, (z10x0, z10x1, z10x2), y11_ => (br (decide (z10x2 < z10x1)) (∃ y18 : table_Dues_l1_Y, table_Dues_l1_L (z10x0, z10x1, z10x2, z10x2) y18 ∧ (table_Dues_l2 k ((y18.1), z10x1, (IntKind.wrap .i64 (z10x2 + 1))) y11_)) (z10x0 = y11_))
def table_Dues_l2_L (z : table_Dues_l2_Z) (y : table_Dues_l2_Y) : Prop := ∃ k, table_Dues_l2 k z y
noncomputable def q34_2_lp : Lp := .auto none q34_2_body (loopK q34_2_k fun z y => ∃ k, table_Dues_l2 k z y)
noncomputable def q34_3_body : Code := subC [1, 1, 0, 0] (bodyOf Tryz.f144)
abbrev table_Dues_l3_Z : Type := (List (Int × Int)) × Int × Int
abbrev table_Dues_l3_Y : Type := List (Int × Int)
noncomputable def q34_3_k : LK := ⟨1, ⟨[(0, .row 0 2 (.z 0) (.q 0)), (1, .li .i64 0), (2, .w 1), (3, .w 2), (4, .fn 77 [] []), (10, .lb true), (11, .lb true)], [.row (.pr (.int .i64) (.int .u64)) (.z 0) 67 (.q 0)], []⟩, [.sl (.pr (.int .i64) (.int .u64)), .int .i64, .int .i64], [.nat], [], [], [⟨.ret, ⟨[], [.row (.pr (.int .i64) (.int .u64)) (.z 0) 67 (.p 0)], []⟩, [.sl (.pr (.int .i64) (.int .u64))], [], none⟩]⟩
def table_Dues_l3_F (i : Ip) (l : table_Dues_l3_Z → table_Dues_l3_Y → Prop) (z8x0 : List (Int × Int)) (z8x1 z8x2 : Int) (z8q0 : Nat) (y9_ : table_Dues_l3_Y) : Prop :=
  (br (decide ((IntKind.wrap .i64 (z8x1 - 0)) ≤ 12)) (i.lo none q34_2_body (i.te [(V.row 0 2 (List.length z8x0) z8q0)] [] (∃ y20 : table_Dues_l2_Y, table_Dues_l2_L (z8x0, z8x1, 1) y20 ∧ (i.te [(V.yld z8q0)] [] (y20 = y9_))))) (br (z8x2 == 0) False False))
def table_Dues_l3 : Nat → table_Dues_l3_Z → table_Dues_l3_Y → Prop
  | 0, _, _ => False
  | k + 1, (z8x0, z8x1, z8x2), y9_ => (br (decide ((IntKind.wrap .i64 (z8x1 - 0)) ≤ 12)) (∃ y20 : table_Dues_l2_Y, table_Dues_l2_L (z8x0, z8x1, 1) y20 ∧ (y20 = y9_)) (br (z8x2 == 0) False False))
def table_Dues_l3_L (z : table_Dues_l3_Z) (y : table_Dues_l3_Y) : Prop := ∃ k, table_Dues_l3 k z y
noncomputable def q34_3_lp : Lp := .auto none q34_3_body (loopK q34_3_k fun z y => ∃ k, table_Dues_l3 k z y)
noncomputable def q34_lp : Nat → FuncId → Nat → Nat → Lp := lpTab [(34, 5, 0, 0, q34_0_lp), (197, 4, 1, 2, q34_1_lp), (197, 1, 1, 2, q34_2_lp), (144, 2, 1, 3, q34_3_lp)]
theorem q34_0_t (n k : Nat) (z2x0 : List (Int × Int)) (z2x1 : List ((Int × Bool × (Int × Int × Int × Int × Int) × Int × Int × Int × Int) × Bool × Int × (Int × Int × Int) × List Int)) (z2x2 z2x3 : Int) (z2k0 : Nat) (y3_ : table_Dues_l0_Y) : rnd q34_cx okT q34_lp (n + 0) 34 none q34_0_body q34_0_k (table_Dues_l0 k) (z2x0, z2x1, z2x2, z2x3) () z2k0 y3_ = table_Dues_l0_F ipT (fun z y => table_Dues_l0 k z y) z2x0 z2x1 z2x2 z2x3 z2k0 y3_ := by kernel_rfl
theorem q34_0_r (k : Nat) (z2x0 : List (Int × Int)) (z2x1 : List ((Int × Bool × (Int × Int × Int × Int × Int) × Int × Int × Int × Int) × Bool × Int × (Int × Int × Int) × List Int)) (z2x2 z2x3 : Int) (z2k0 : Nat) (y3_ : table_Dues_l0_Y) : table_Dues_l0 (k + 1) (z2x0, z2x1, z2x2, z2x3) y3_ → table_Dues_l0_F ipT (fun z y => table_Dues_l0 k z y) z2x0 z2x1 z2x2 z2x3 z2k0 y3_ := by
  unfold table_Dues_l0_F
  intro h; simp only [table_Dues_l0] at h; revert h
  refine MI.run ?_
  repeat' (first | intro _ | with_reducible constructor)
theorem q34_0_ok (n : Nat) : Owed q34_cx okT 34 q34_lp (n + 0) q34_0_lp := owed_rnd (lk := q34_0_k) (l := table_Dues_l0) (fun z y h => h) fun k z q c y h => Eq.mpr (q34_0_t n k z.1 z.2.1 z.2.2.1 z.2.2.2 c y) (q34_0_r k z.1 z.2.1 z.2.2.1 z.2.2.2 c y h)
theorem q34_1_t (n k : Nat) (z12x0 : List (Int × Int)) (z12x1 z12x2 z12x3 : Int) (z12q0 : Nat) (y13_ : table_Dues_l1_Y) : rnd q34_cx okT q34_lp (n + 2) 197 none q34_1_body q34_1_k (table_Dues_l1 k) (z12x0, z12x1, z12x2, z12x3) z12q0 () y13_ = table_Dues_l1_F ipT (fun z y => table_Dues_l1 k z y) z12x0 z12x1 z12x2 z12x3 z12q0 y13_ := by kernel_rfl
theorem q34_1_r (k : Nat) (z12x0 : List (Int × Int)) (z12x1 z12x2 z12x3 : Int) (z12q0 : Nat) (y13_ : table_Dues_l1_Y) : table_Dues_l1 (k + 1) (z12x0, z12x1, z12x2, z12x3) y13_ → table_Dues_l1_F ipT (fun z y => table_Dues_l1 k z y) z12x0 z12x1 z12x2 z12x3 z12q0 y13_ := by
  unfold table_Dues_l1_F
  intro h; simp only [table_Dues_l1] at h; revert h
  refine MI.run ?_
  repeat' (first | intro _ | with_reducible constructor)
theorem q34_1_ok (n : Nat) : Owed q34_cx okT 197 q34_lp (n + 2) q34_1_lp := owed_rnd (lk := q34_1_k) (l := table_Dues_l1) (fun z y h => h) fun k z q c y h => Eq.mpr (q34_1_t n k z.1 z.2.1 z.2.2.1 z.2.2.2 q y) (q34_1_r k z.1 z.2.1 z.2.2.1 z.2.2.2 q y h)
theorem q34_2_t (n k : Nat) (z10x0 : List (Int × Int)) (z10x1 z10x2 : Int) (z10q0 : Nat) (y11_ : table_Dues_l2_Y) : rnd q34_cx okT q34_lp (n + 2) 197 none q34_2_body q34_2_k (table_Dues_l2 k) (z10x0, z10x1, z10x2) z10q0 () y11_ = table_Dues_l2_F ipT (fun z y => table_Dues_l2 k z y) z10x0 z10x1 z10x2 z10q0 y11_ := by kernel_rfl
theorem q34_2_r (k : Nat) (z10x0 : List (Int × Int)) (z10x1 z10x2 : Int) (z10q0 : Nat) (y11_ : table_Dues_l2_Y) : table_Dues_l2 (k + 1) (z10x0, z10x1, z10x2) y11_ → table_Dues_l2_F ipT (fun z y => table_Dues_l2 k z y) z10x0 z10x1 z10x2 z10q0 y11_ := by
  unfold table_Dues_l2_F
  intro h; simp only [table_Dues_l2] at h; revert h
  refine MI.run ?_
  repeat' (first | intro _ | with_reducible constructor)
theorem q34_2_ok (n : Nat) : Owed q34_cx okT 197 q34_lp (n + 2) q34_2_lp := owed_rnd (lk := q34_2_k) (l := table_Dues_l2) (fun z y h => h) fun k z q c y h => Eq.mpr (q34_2_t n k z.1 z.2.1 z.2.2 q y) (q34_2_r k z.1 z.2.1 z.2.2 q y h)
theorem q34_3_t (n k : Nat) (z8x0 : List (Int × Int)) (z8x1 z8x2 : Int) (z8q0 : Nat) (y9_ : table_Dues_l3_Y) : rnd q34_cx okT q34_lp (n + 3) 144 none q34_3_body q34_3_k (table_Dues_l3 k) (z8x0, z8x1, z8x2) z8q0 () y9_ = table_Dues_l3_F ipT (fun z y => table_Dues_l3 k z y) z8x0 z8x1 z8x2 z8q0 y9_ := by kernel_rfl
theorem q34_3_r (k : Nat) (z8x0 : List (Int × Int)) (z8x1 z8x2 : Int) (z8q0 : Nat) (y9_ : table_Dues_l3_Y) : table_Dues_l3 (k + 1) (z8x0, z8x1, z8x2) y9_ → table_Dues_l3_F ipT (fun z y => table_Dues_l3 k z y) z8x0 z8x1 z8x2 z8q0 y9_ := by
  unfold table_Dues_l3_F
  intro h; simp only [table_Dues_l3] at h; revert h
  refine MI.run ?_
  repeat' (first | intro _ | with_reducible constructor)
theorem q34_3_ok (n : Nat) : Owed q34_cx okT 144 q34_lp (n + 3) q34_3_lp := owed_rnd (lk := q34_3_k) (l := table_Dues_l3) (fun z y h => h) fun k z q c y h => Eq.mpr (q34_3_t n k z.1 z.2.1 z.2.2 q y) (q34_3_r k z.1 z.2.1 z.2.2 q y h)
def table_Dues_F (i : Ip) (a0 : List ((Int × Bool × (Int × Int × Int × Int × Int) × Int × Int × Int × Int) × Bool × Int × (Int × Int × Int) × List Int)) (y : List (Int × Int)) : Prop :=
  (∃ y1 : Int, (table_Check_R a0 y1) ∧ (br (y1 != 0) ([] = y) (i.lo none q34_0_body (i.te [(V.row 0 2 0 0)] [] (∃ y6 : table_Dues_l0_Y, table_Dues_l0_L ([], a0, (((List.length a0) : Nat) : Int), 0) y6 ∧ (i.cq [.nat] fun y6c => (∃ y7 : Int, (math_bits_Len_R (IntKind.wrap .u64 (((List.length y6) : Nat) : Int)) y7) ∧ (i.lo none q34_3_body (i.te [(V.row 0 2 (List.length y6) y6c)] [] (∃ y22 : table_Dues_l3_Y, table_Dues_l3_L (y6, (((List.length y6) : Nat) : Int), y7) y22 ∧ (i.r2 (Nat.beq (List.length y6) (List.length y22)) (true && ((Nat.beq (List.length y6) (List.length y22)) && (Nat.beq y6c y6c))) (fun q => (band rfl (band q (Nat.beq_refl _)))) (y22 = y))))))))))))
def table_Dues_R (a0 : List ((Int × Bool × (Int × Int × Int × Int × Int) × Int × Int × Int × Int) × Bool × Int × (Int × Int × Int) × List Int)) (y : List (Int × Int)) : Prop :=
  (∃ y1 : Int, (table_Check_R a0 y1) ∧ (br (y1 != 0) ([] = y) (∃ y6 : table_Dues_l0_Y, table_Dues_l0_L ([], a0, (((List.length a0) : Nat) : Int), 0) y6 ∧ (∃ y7 : Int, (math_bits_Len_R (IntKind.wrap .u64 (((List.length y6) : Nat) : Int)) y7) ∧ (∃ y22 : table_Dues_l3_Y, table_Dues_l3_L (y6, (((List.length y6) : Nat) : Int), y7) y22 ∧ (req (Nat.beq (List.length y6) (List.length y22)) (y22 = y)))))))
theorem q34_t (a0 : List ((Int × Bool × (Int × Int × Int × Int × Int) × Int × Int × Int × Int) × Bool × Int × (Int × Int × Int) × List Int)) (y : List (Int × Int)) : acall q34_cx okT q34_lp 60 (.fn 34 [] []) [(V.sl (.pr (.pr (.int .u32) (.pr .bool (.pr (.pr (.int .u64) (.pr (.int .u64) (.pr (.int .u64) (.pr (.int .u64) (.int .u64))))) (.pr (.int .i64) (.pr (.int .i64) (.pr (.int .i64) (.int .i64))))))) (.pr .bool (.pr (.int .i64) (.pr (.pr (.int .u64) (.pr (.int .i64) (.int .i64))) (.sl (.int .i64)))))) a0 none)] [] (leafK B34 y) = table_Dues_F ipT a0 y := by kernel_rfl
theorem q34_r (a0 : List ((Int × Bool × (Int × Int × Int × Int × Int) × Int × Int × Int × Int) × Bool × Int × (Int × Int × Int) × List Int)) (y : List (Int × Int)) : table_Dues_R a0 y → table_Dues_F ipT a0 y := by
  unfold table_Dues_R table_Dues_F
  refine MI.run ?_
  repeat' (first | intro _ | with_reducible constructor)
abbrev r34 (x : A34.den) (y : B34.den) : Prop := table_Dues_R x y
theorem table_Dues_ok : FxOk Tryz.prog gsT 34 A34 B34 r34 := fo (c := q34_cx) rfl rfl (Fns_assoc ⟨b34, table_Check_ok, b76, b77, cmp_Or_int_ok, cmp_Compare_int64_ok, cmp_Compare_uint64_ok, b144, math_bits_Len_ok, b197, trivial⟩) (lp := q34_lp) (n := 60) (LpOk_tab ⟨q34_0_ok, q34_1_ok, q34_2_ok, q34_3_ok, trivial⟩) (enters Tryz.func34 (by kernel_rfl) rfl) (fun y => ⟨_, rfl⟩) fun x y h => Eq.mpr (q34_t _ y) (q34_r _ y h)
def e34 : Nat × Ent := (34, .fx A34 B34 r34)
noncomputable def c35 : Nat × Ent := (35, .body Tryz.f35)
theorem b35 {c : Cx} : EntOk Tryz.prog c 35 (.body Tryz.f35) := body_ent Tryz.func35 (by kernel_rfl) (by kernel_rfl)
abbrev A35 : RT := (.one (.sl (.pr (.pr (.int .u32) (.pr .bool (.pr (.pr (.int .u64) (.pr (.int .u64) (.pr (.int .u64) (.pr (.int .u64) (.int .u64))))) (.pr (.int .i64) (.pr (.int .i64) (.pr (.int .i64) (.int .i64))))))) (.pr .bool (.pr (.int .i64) (.pr (.pr (.int .u64) (.pr (.int .i64) (.int .i64))) (.sl (.int .i64))))))))
abbrev B35 : RT := (.nw (.int .u32) 24)
noncomputable def q35_cx : Cx := ⟨tyT, [c35, e36], gsT, eqT, false, []⟩
noncomputable def q35_0_body : Code := subC [1, 1, 1, 0, 1, 0, 0] (bodyOf Tryz.f35)
abbrev table_Names_l0_Z : Type := List Int × (List ((Int × Bool × (Int × Int × Int × Int × Int) × Int × Int × Int × Int) × Bool × Int × (Int × Int × Int) × List Int)) × Int × Int
abbrev table_Names_l0_Y : Type := List Int
noncomputable def q35_0_k : LK := ⟨0, ⟨[(3, .row 0 1 (.z 0) (.c 0)), (10, .sl (.pr (.pr (.int .u32) (.pr .bool (.pr (.pr (.int .u64) (.pr (.int .u64) (.pr (.int .u64) (.pr (.int .u64) (.int .u64))))) (.pr (.int .i64) (.pr (.int .i64) (.pr (.int .i64) (.int .i64))))))) (.pr .bool (.pr (.int .i64) (.pr (.pr (.int .u64) (.pr (.int .i64) (.int .i64))) (.sl (.int .i64)))))) 1), (11, .w 2), (12, .w 3)], [.row (.int .u32) (.z 0) 24 (.c 0)], []⟩, [.sl (.int .u32), .sl (.pr (.pr (.int .u32) (.pr .bool (.pr (.pr (.int .u64) (.pr (.int .u64) (.pr (.int .u64) (.pr (.int .u64) (.int .u64))))) (.pr (.int .i64) (.pr (.int .i64) (.pr (.int .i64) (.int .i64))))))) (.pr .bool (.pr (.int .i64) (.pr (.pr (.int .u64) (.pr (.int .i64) (.int .i64))) (.sl (.int .i64)))))), .int .i64, .int .i64], [], [.nat], [], [⟨(.exit 0), ⟨[(3, .row 0 1 (.z 0) (.c 0))], [.row (.int .u32) (.z 0) 24 (.c 0)], []⟩, [.sl (.int .u32)], [.nat], none⟩]⟩
def table_Names_l0_F (i : Ip) (l : table_Names_l0_Z → table_Names_l0_Y → Prop) (z2x0 : List Int) (z2x1 : List ((Int × Bool × (Int × Int × Int × Int × Int) × Int × Int × Int × Int) × Bool × Int × (Int × Int × Int) × List Int)) (z2x2 z2x3 : Int) (z2k0 : Nat) (y3_ : table_Names_l0_Y) : Prop :=
  (br (decide (z2x3 < z2x2)) (i.rq ((decide (0 ≤ z2x3)) && (decide (z2x3 < (((List.length z2x1) : Nat) : Int)))) (i.r2 (Nat.ble ((List.length (z2x0 ++ [(((List.getD z2x1 (Int.toNat z2x3) ((0, (false, ((0, (0, (0, (0, 0)))), (0, (0, (0, 0)))))), (false, (0, ((0, (0, 0)), []))))).1).1)])) * 5) 140737488355328) (((((true && true) && true) && (Nat.beq (List.length z2x0) (List.length z2x0))) && (Nat.beq z2k0 z2k0)) && (Nat.ble ((List.length (z2x0 ++ [(((List.getD z2x1 (Int.toNat z2x3) ((0, (false, ((0, (0, (0, (0, 0)))), (0, (0, (0, 0)))))), (false, (0, ((0, (0, 0)), []))))).1).1)])) * 5) 140737488355328)) (fun q => (band (band (band (band (band rfl rfl) rfl) (Nat.beq_refl _)) (Nat.beq_refl _)) q)) (i.cp (List.length (z2x0 ++ [(((List.getD z2x1 (Int.toNat z2x3) ((0, (false, ((0, (0, (0, (0, 0)))), (0, (0, (0, 0)))))), (false, (0, ((0, (0, 0)), []))))).1).1)])) fun c4 hc4 => (i.te [(V.row 0 1 (List.length (z2x0 ++ [(((List.getD z2x1 (Int.toNat z2x3) ((0, (false, ((0, (0, (0, (0, 0)))), (0, (0, (0, 0)))))), (false, (0, ((0, (0, 0)), []))))).1).1)])) c4)] [] (l ((z2x0 ++ [(((List.getD z2x1 (Int.toNat z2x3) ((0, (false, ((0, (0, (0, (0, 0)))), (0, (0, (0, 0)))))), (false, (0, ((0, (0, 0)), []))))).1).1)]), z2x1, z2x2, (IntKind.wrap .i64 (z2x3 + 1))) y3_))))) (i.te [(V.row 0 1 (List.length z2x0) z2k0)] [] (z2x0 = y3_)))
def table_Names_l0 : Nat → table_Names_l0_Z → table_Names_l0_Y → Prop
  | 0, _, _ => False
  | k + 1, (z2x0, z2x1, z2x2, z2x3), y3_ => (br (decide (z2x3 < z2x2)) (req ((decide (0 ≤ z2x3)) && (decide (z2x3 < (((List.length z2x1) : Nat) : Int)))) (req (Nat.ble ((List.length (z2x0 ++ [(((List.getD z2x1 (Int.toNat z2x3) ((0, (false, ((0, (0, (0, (0, 0)))), (0, (0, (0, 0)))))), (false, (0, ((0, (0, 0)), []))))).1).1)])) * 5) 140737488355328) (table_Names_l0 k ((z2x0 ++ [(((List.getD z2x1 (Int.toNat z2x3) ((0, (false, ((0, (0, (0, (0, 0)))), (0, (0, (0, 0)))))), (false, (0, ((0, (0, 0)), []))))).1).1)]), z2x1, z2x2, (IntKind.wrap .i64 (z2x3 + 1))) y3_))) (z2x0 = y3_))
def table_Names_l0_L (z : table_Names_l0_Z) (y : table_Names_l0_Y) : Prop := ∃ k, table_Names_l0 k z y
noncomputable def q35_0_lp : Lp := .auto none q35_0_body (loopK q35_0_k fun z y => ∃ k, table_Names_l0 k z y)
noncomputable def q35_lp : Nat → FuncId → Nat → Nat → Lp := lpTab [(35, 5, 0, 0, q35_0_lp)]
theorem q35_0_t (n k : Nat) (z2x0 : List Int) (z2x1 : List ((Int × Bool × (Int × Int × Int × Int × Int) × Int × Int × Int × Int) × Bool × Int × (Int × Int × Int) × List Int)) (z2x2 z2x3 : Int) (z2k0 : Nat) (y3_ : table_Names_l0_Y) : rnd q35_cx okT q35_lp (n + 0) 35 none q35_0_body q35_0_k (table_Names_l0 k) (z2x0, z2x1, z2x2, z2x3) () z2k0 y3_ = table_Names_l0_F ipT (fun z y => table_Names_l0 k z y) z2x0 z2x1 z2x2 z2x3 z2k0 y3_ := by kernel_rfl
theorem q35_0_r (k : Nat) (z2x0 : List Int) (z2x1 : List ((Int × Bool × (Int × Int × Int × Int × Int) × Int × Int × Int × Int) × Bool × Int × (Int × Int × Int) × List Int)) (z2x2 z2x3 : Int) (z2k0 : Nat) (y3_ : table_Names_l0_Y) : table_Names_l0 (k + 1) (z2x0, z2x1, z2x2, z2x3) y3_ → table_Names_l0_F ipT (fun z y => table_Names_l0 k z y) z2x0 z2x1 z2x2 z2x3 z2k0 y3_ := by
  unfold table_Names_l0_F
  intro h; simp only [table_Names_l0] at h; revert h
  refine MI.run ?_
  repeat' (first | intro _ | with_reducible constructor)
theorem q35_0_ok (n : Nat) : Owed q35_cx okT 35 q35_lp (n + 0) q35_0_lp := owed_rnd (lk := q35_0_k) (l := table_Names_l0) (fun z y h => h) fun k z q c y h => Eq.mpr (q35_0_t n k z.1 z.2.1 z.2.2.1 z.2.2.2 c y) (q35_0_r k z.1 z.2.1 z.2.2.1 z.2.2.2 c y h)
def table_Names_F (i : Ip) (a0 : List ((Int × Bool × (Int × Int × Int × Int × Int) × Int × Int × Int × Int) × Bool × Int × (Int × Int × Int) × List Int)) (y : List Int) : Prop :=
  (∃ y1 : Int, (table_Check_R a0 y1) ∧ (br (y1 != 0) ([] = y) (i.lo none q35_0_body (i.te [(V.row 0 1 0 0)] [] (∃ y6 : table_Names_l0_Y, table_Names_l0_L ([], a0, (((List.length a0) : Nat) : Int), 0) y6 ∧ (i.cq [.nat] fun y6c => (i.tr (true && ((Nat.beq (List.length y6) (List.length y6)) && (Nat.beq y6c y6c))) (band rfl (band (Nat.beq_refl _) (Nat.beq_refl _))) (y6 = y))))))))
def table_Names_R (a0 : List ((Int × Bool × (Int × Int × Int × Int × Int) × Int × Int × Int × Int) × Bool × Int × (Int × Int × Int) × List Int)) (y : List Int) : Prop :=
  (∃ y1 : Int, (table_Check_R a0 y1) ∧ (br (y1 != 0) ([] = y) (∃ y6 : table_Names_l0_Y, table_Names_l0_L ([], a0, (((List.length a0) : Nat) : Int), 0) y6 ∧ (y6 = y))))
theorem q35_t (a0 : List ((Int × Bool × (Int × Int × Int × Int × Int) × Int × Int × Int × Int) × Bool × Int × (Int × Int × Int) × List Int)) (y : List Int) : acall q35_cx okT q35_lp 60 (.fn 35 [] []) [(V.sl (.pr (.pr (.int .u32) (.pr .bool (.pr (.pr (.int .u64) (.pr (.int .u64) (.pr (.int .u64) (.pr (.int .u64) (.int .u64))))) (.pr (.int .i64) (.pr (.int .i64) (.pr (.int .i64) (.int .i64))))))) (.pr .bool (.pr (.int .i64) (.pr (.pr (.int .u64) (.pr (.int .i64) (.int .i64))) (.sl (.int .i64)))))) a0 none)] [] (leafK B35 y) = table_Names_F ipT a0 y := by kernel_rfl
theorem q35_r (a0 : List ((Int × Bool × (Int × Int × Int × Int × Int) × Int × Int × Int × Int) × Bool × Int × (Int × Int × Int) × List Int)) (y : List Int) : table_Names_R a0 y → table_Names_F ipT a0 y := by
  unfold table_Names_R table_Names_F
  refine MI.run ?_
  repeat' (first | intro _ | with_reducible constructor)
abbrev r35 (x : A35.den) (y : B35.den) : Prop := table_Names_R x y
theorem table_Names_ok : FxOk Tryz.prog gsT 35 A35 B35 r35 := fo (c := q35_cx) rfl rfl (Fns_assoc ⟨b35, table_Check_ok, trivial⟩) (lp := q35_lp) (n := 60) (LpOk_tab ⟨q35_0_ok, trivial⟩) (enters Tryz.func35 (by kernel_rfl) rfl) (fun y => ⟨_, rfl⟩) fun x y h => Eq.mpr (q35_t _ y) (q35_r _ y h)
def e35 : Nat × Ent := (35, .fx A35 B35 r35)
noncomputable def c84 : Nat × Ent := (84, .body Tryz.f84)
theorem b84 {c : Cx} : EntOk Tryz.prog c 84 (.body Tryz.f84) := body_ent Tryz.func84 (by kernel_rfl) (by kernel_rfl)
abbrev A84 : RT := (.cons (.sl (.pr (.int .i64) (.int .u64))) (.one (.agg (.cons (.int .i64) (.one (.int .u64))))))
abbrev B84 : RT := (.int .i64)
noncomputable def q84_cx : Cx := ⟨tyT, [c84], gsT, eqT, false, []⟩
noncomputable def q84_0_body : Code := subC [1, 0, 1, 0, 0] (bodyOf Tryz.f84)
abbrev slices_Index__api_Due_api_Due_l0_Z : Type := Int × Int × (List (Int × Int)) × Int × Int
abbrev slices_Index__api_Due_api_Due_l0_Y : Type := (Int) ⊕ (Unit)
noncomputable def q84_0_k : LK := ⟨1, ⟨[(0, .sl (.pr (.int .i64) (.int .u64)) 2), (3, .ptr 0 0), (7, .w 3), (8, .w 4)], [.cells [.w 0, .w 1]], []⟩, [.int .i64, .int .u64, .sl (.pr (.int .i64) (.int .u64)), .int .i64, .int .i64], [], [], [], [⟨.ret, ⟨[(4, .w 0)], [.dead], []⟩, [.int .i64], [], none⟩, ⟨(.exit 0), ⟨[], [.dead], []⟩, [], [], none⟩]⟩
def slices_Index__api_Due_api_Due_l0_F (i : Ip) (l : slices_Index__api_Due_api_Due_l0_Z → slices_Index__api_Due_api_Due_l0_Y → Prop) (z1x0 z1x1 : Int) (z1x2 : List (Int × Int)) (z1x3 z1x4 : Int) (y2_ : slices_Index__api_Due_api_Due_l0_Y) : Prop :=
  (br (decide (z1x4 < z1x3)) (i.rq ((decide (0 ≤ z1x4)) && (decide (z1x4 < (((List.length z1x2) : Nat) : Int)))) (br ((z1x0 == ((List.getD z1x2 (Int.toNat z1x4) (0, 0)).1)) && ((z1x1 == ((List.getD z1x2 (Int.toNat z1x4) (0, 0)).2)) && true)) ((Sum.inl z1x4) = y2_) (l (z1x0, z1x1, z1x2, z1x3, (IntKind.wrap .i64 (z1x4 + 1))) y2_))) ((Sum.inr ()) = y2_))
def slices_Index__api_Due_api_Due_l0 : Nat → slices_Index__api_Due_api_Due_l0_Z → slices_Index__api_Due_api_Due_l0_Y → Prop
  | 0, _, _ => False
  | k + 1, (z1x0, z1x1, z1x2, z1x3, z1x4), y2_ => (br (decide (z1x4 < z1x3)) (req ((decide (0 ≤ z1x4)) && (decide (z1x4 < (((List.length z1x2) : Nat) : Int)))) (br ((z1x0 == ((List.getD z1x2 (Int.toNat z1x4) (0, 0)).1)) && ((z1x1 == ((List.getD z1x2 (Int.toNat z1x4) (0, 0)).2)) && true)) ((Sum.inl z1x4) = y2_) (slices_Index__api_Due_api_Due_l0 k (z1x0, z1x1, z1x2, z1x3, (IntKind.wrap .i64 (z1x4 + 1))) y2_))) ((Sum.inr ()) = y2_))
def slices_Index__api_Due_api_Due_l0_L (z : slices_Index__api_Due_api_Due_l0_Z) (y : slices_Index__api_Due_api_Due_l0_Y) : Prop := ∃ k, slices_Index__api_Due_api_Due_l0 k z y
noncomputable def q84_0_lp : Lp := .auto none q84_0_body (loopK q84_0_k fun z y => ∃ k, slices_Index__api_Due_api_Due_l0 k z y)
noncomputable def q84_lp : Nat → FuncId → Nat → Nat → Lp := lpTab [(84, 2, 1, 0, q84_0_lp)]
theorem q84_0_t (n k : Nat) (z1x0 z1x1 : Int) (z1x2 : List (Int × Int)) (z1x3 z1x4 : Int) (y2_ : slices_Index__api_Due_api_Due_l0_Y) : rnd q84_cx okT q84_lp (n + 0) 84 none q84_0_body q84_0_k (slices_Index__api_Due_api_Due_l0 k) (z1x0, z1x1, z1x2, z1x3, z1x4) () () y2_ = slices_Index__api_Due_api_Due_l0_F ipT (fun z y => slices_Index__api_Due_api_Due_l0 k z y) z1x0 z1x1 z1x2 z1x3 z1x4 y2_ := by kernel_rfl
theorem q84_0_r (k : Nat) (z1x0 z1x1 : Int) (z1x2 : List (Int × Int)) (z1x3 z1x4 : Int) (y2_ : slices_Index__api_Due_api_Due_l0_Y) : slices_Index__api_Due_api_Due_l0 (k + 1) (z1x0, z1x1, z1x2, z1x3, z1x4) y2_ → slices_Index__api_Due_api_Due_l0_F ipT (fun z y => slices_Index__api_Due_api_Due_l0 k z y) z1x0 z1x1 z1x2 z1x3 z1x4 y2_ := by
  unfold slices_Index__api_Due_api_Due_l0_F
  intro h; simp only [slices_Index__api_Due_api_Due_l0] at h; revert h
  refine MI.run ?_
  repeat' (first | intro _ | with_reducible constructor)
theorem q84_0_ok (n : Nat) : Owed q84_cx okT 84 q84_lp (n + 0) q84_0_lp := owed_rnd (lk := q84_0_k) (l := slices_Index__api_Due_api_Due_l0) (fun z y h => h) fun k z q c y h => Eq.mpr (q84_0_t n k z.1 z.2.1 z.2.2.1 z.2.2.2.1 z.2.2.2.2 y) (q84_0_r k z.1 z.2.1 z.2.2.1 z.2.2.2.1 z.2.2.2.2 y h)
def slices_Index__api_Due_api_Due_F (i : Ip) (a0 : List (Int × Int)) (a1 a2 : Int) (y : Int) : Prop :=
  (i.lo none q84_0_body (∃ y4 : slices_Index__api_Due_api_Due_l0_Y, slices_Index__api_Due_api_Due_l0_L (a1, a2, a0, (((List.length a0) : Nat) : Int), 0) y4 ∧ sume (fun y4 => (y4 = y)) (fun y4 => ((-1) = y)) y4))
def slices_Index__api_Due_api_Due_R (a0 : List (Int × Int)) (a1 a2 : Int) (y : Int) : Prop :=
  (∃ y4 : slices_Index__api_Due_api_Due_l0_Y, slices_Index__api_Due_api_Due_l0_L (a1, a2, a0, (((List.length a0) : Nat) : Int), 0) y4 ∧ sume (fun y4 => (y4 = y)) (fun y4 => ((-1) = y)) y4)
theorem q84_t (a0 : List (Int × Int)) (a1 a2 : Int) (y : Int) : acall q84_cx okT q84_lp 60 (.fn 84 [] []) [(V.sl (.pr (.int .i64) (.int .u64)) a0 none), (V.agg [(vi a1), (vu a2)])] [] (leafK B84 y) = slices_Index__api_Due_api_Due_F ipT a0 a1 a2 y := by kernel_rfl
theorem q84_r (a0 : List (Int × Int)) (a1 a2 : Int) (y : Int) : slices_Index__api_Due_api_Due_R a0 a1 a2 y → slices_Index__api_Due_api_Due_F ipT a0 a1 a2 y := by
  unfold slices_Index__api_Due_api_Due_R slices_Index__api_Due_api_Due_F
  refine MI.run ?_
  repeat' (first | intro _ | with_reducible constructor)
abbrev r84 (x : A84.den) (y : B84.den) : Prop := slices_Index__api_Due_api_Due_R (x.1) (x.2.1) (x.2.2) y
theorem slices_Index__api_Due_api_Due_ok : FxOk Tryz.prog gsT 84 A84 B84 r84 := fo (c := q84_cx) rfl rfl (Fns_assoc ⟨b84, trivial⟩) (lp := q84_lp) (n := 60) (LpOk_tab ⟨q84_0_ok, trivial⟩) (enters Tryz.func84 (by kernel_rfl) rfl) (fun y => ⟨_, rfl⟩) fun x y h => Eq.mpr (q84_t _ _ _ y) (q84_r _ _ _ y h)
def e84 : Nat × Ent := (84, .fx A84 B84 r84)
noncomputable def c37 : Nat × Ent := (37, .body Tryz.f37)
theorem b37 {c : Cx} : EntOk Tryz.prog c 37 (.body Tryz.f37) := body_ent Tryz.func37 (by kernel_rfl) (by kernel_rfl)
abbrev A37 : RT := (.cons (.sl (.pr (.int .i64) (.int .u64))) (.one (.agg (.cons (.int .i64) (.one (.int .u64))))))
abbrev B37 : RT := .bool
noncomputable def q37_cx : Cx := ⟨tyT, [c37, e84], gsT, eqT, false, []⟩
def slices_Contains__api_Due_api_Due_R (a0 : List (Int × Int)) (a1 a2 : Int) (y : Bool) : Prop :=
  (∃ y1 : Int, (slices_Index__api_Due_api_Due_R a0 a1 a2 y1) ∧ ((decide (y1 ≥ 0)) = y))
theorem q37_t (a0 : List (Int × Int)) (a1 a2 : Int) (y : Bool) : acall q37_cx okT lpT 60 (.fn 37 [] []) [(V.sl (.pr (.int .i64) (.int .u64)) a0 none), (V.agg [(vi a1), (vu a2)])] [] (leafK B37 y) = slices_Contains__api_Due_api_Due_R a0 a1 a2 y := by kernel_rfl
abbrev r37 (x : A37.den) (y : B37.den) : Prop := slices_Contains__api_Due_api_Due_R (x.1) (x.2.1) (x.2.2) y
theorem slices_Contains__api_Due_api_Due_ok : FxOk Tryz.prog gsT 37 A37 B37 r37 := fo (c := q37_cx) rfl rfl (Fns_assoc ⟨b37, slices_Index__api_Due_api_Due_ok, trivial⟩) (n := 60) (lp_ok) (enters Tryz.func37 (by kernel_rfl) rfl) (fun y => ⟨_, rfl⟩) fun x y h => Eq.mpr (q37_t _ _ _ y) h
def e37 : Nat × Ent := (37, .fx A37 B37 r37)
noncomputable def c85 : Nat × Ent := (85, .body Tryz.f85)
theorem b85 {c : Cx} : EntOk Tryz.prog c 85 (.body Tryz.f85) := body_ent Tryz.func85 (by kernel_rfl) (by kernel_rfl)
abbrev A85 : RT := (.cons (.int .u32) (.one (.int .u32)))
abbrev B85 : RT := .bool
noncomputable def q85_cx : Cx := ⟨tyT, [c85, e152], gsT, eqT, false, []⟩
def cmp_Less_uint32_R (a0 a1 : Int) (y : Bool) : Prop :=
  (∃ y1 : Bool, (cmp_isNaN_uint32_R a0 y1) ∧ (br y1 (∃ y2 : Bool, (cmp_isNaN_uint32_R a1 y2) ∧ (br (!y2) (true = y) ((decide (a0 < a1)) = y))) ((decide (a0 < a1)) = y)))
theorem q85_t (a0 a1 : Int) (y : Bool) : acall q85_cx okT lpT 60 (.fn 85 [] []) [(V.int .u32 a0), (V.int .u32 a1)] [] (leafK B85 y) = cmp_Less_uint32_R a0 a1 y := by kernel_rfl
abbrev r85 (x : A85.den) (y : B85.den) : Prop := cmp_Less_uint32_R (x.1) (x.2) y
theorem cmp_Less_uint32_ok : FxOk Tryz.prog gsT 85 A85 B85 r85 := fo (c := q85_cx) rfl rfl (Fns_assoc ⟨b85, cmp_isNaN_uint32_ok, trivial⟩) (n := 60) (lp_ok) (enters Tryz.func85 (by kernel_rfl) rfl) (fun y => ⟨_, rfl⟩) fun x y h => Eq.mpr (q85_t _ _ y) h
def e85 : Nat × Ent := (85, .fx A85 B85 r85)
noncomputable def c38 : Nat × Ent := (38, .body Tryz.f38)
theorem b38 {c : Cx} : EntOk Tryz.prog c 38 (.body Tryz.f38) := body_ent Tryz.func38 (by kernel_rfl) (by kernel_rfl)
abbrev A38 : RT := (.one (.sl (.int .u32)))
abbrev B38 : RT := .bool
noncomputable def q38_cx : Cx := ⟨tyT, [c38, e85], gsT, eqT, false, []⟩
noncomputable def q38_0_body : Code := subC [1, 0, 1, 0, 0] (bodyOf Tryz.f38)
abbrev slices_IsSorted__uint32_uint32_l0_Z : Type := List Int × Int
abbrev slices_IsSorted__uint32_uint32_l0_Y : Type := (Unit) ⊕ (Unit)
noncomputable def q38_0_k : LK := ⟨0, ⟨[(0, .sl (.int .u32) 0), (3, .w 1)], [], []⟩, [.sl (.int .u32), .int .i64], [], [], [], [⟨.ret, ⟨[(2, .lb false)], [], []⟩, [], [], none⟩, ⟨(.exit 0), ⟨[], [], []⟩, [], [], none⟩]⟩
def slices_IsSorted__uint32_uint32_l0_F (i : Ip) (l : slices_IsSorted__uint32_uint32_l0_Z → slices_IsSorted__uint32_uint32_l0_Y → Prop) (z1x0 : List Int) (z1x1 : Int) (y2_ : slices_IsSorted__uint32_uint32_l0_Y) : Prop :=
  (br (decide (z1x1 > 0)) (i.rq ((decide (0 ≤ z1x1)) && (decide (z1x1 < (((List.length z1x0) : Nat) : Int)))) (i.rq ((decide (0 ≤ (IntKind.wrap .i64 (z1x1 - 1)))) && (decide ((IntKind.wrap .i64 (z1x1 - 1)) < (((List.length z1x0) : Nat) : Int)))) (∃ y3 : Bool, (cmp_Less_uint32_R (List.getD z1x0 (Int.toNat z1x1) 0) (List.getD z1x0 (Int.toNat (IntKind.wrap .i64 (z1x1 - 1))) 0) y3) ∧ (br y3 ((Sum.inl ()) = y2_) (l (z1x0, (IntKind.wrap .i64 (z1x1 - 1))) y2_))))) ((Sum.inr ()) = y2_))
def slices_IsSorted__uint32_uint32_l0 : Nat → slices_IsSorted__uint32_uint32_l0_Z → slices_IsSorted__uint32_uint32_l0_Y → Prop
  | 0, _, _ => False
  | k + 1, (z1x0, z1x1), y2_ => (br (decide (z1x1 > 0)) (req ((decide (0 ≤ z1x1)) && (decide (z1x1 < (((List.length z1x0) : Nat) : Int)))) (req ((decide (0 ≤ (IntKind.wrap .i64 (z1x1 - 1)))) && (decide ((IntKind.wrap .i64 (z1x1 - 1)) < (((List.length z1x0) : Nat) : Int)))) (∃ y3 : Bool, (cmp_Less_uint32_R (List.getD z1x0 (Int.toNat z1x1) 0) (List.getD z1x0 (Int.toNat (IntKind.wrap .i64 (z1x1 - 1))) 0) y3) ∧ (br y3 ((Sum.inl ()) = y2_) (slices_IsSorted__uint32_uint32_l0 k (z1x0, (IntKind.wrap .i64 (z1x1 - 1))) y2_))))) ((Sum.inr ()) = y2_))
def slices_IsSorted__uint32_uint32_l0_L (z : slices_IsSorted__uint32_uint32_l0_Z) (y : slices_IsSorted__uint32_uint32_l0_Y) : Prop := ∃ k, slices_IsSorted__uint32_uint32_l0 k z y
noncomputable def q38_0_lp : Lp := .auto none q38_0_body (loopK q38_0_k fun z y => ∃ k, slices_IsSorted__uint32_uint32_l0 k z y)
noncomputable def q38_lp : Nat → FuncId → Nat → Nat → Lp := lpTab [(38, 2, 0, 0, q38_0_lp)]
theorem q38_0_t (n k : Nat) (z1x0 : List Int) (z1x1 : Int) (y2_ : slices_IsSorted__uint32_uint32_l0_Y) : rnd q38_cx okT q38_lp (n + 0) 38 none q38_0_body q38_0_k (slices_IsSorted__uint32_uint32_l0 k) (z1x0, z1x1) () () y2_ = slices_IsSorted__uint32_uint32_l0_F ipT (fun z y => slices_IsSorted__uint32_uint32_l0 k z y) z1x0 z1x1 y2_ := by kernel_rfl
theorem q38_0_r (k : Nat) (z1x0 : List Int) (z1x1 : Int) (y2_ : slices_IsSorted__uint32_uint32_l0_Y) : slices_IsSorted__uint32_uint32_l0 (k + 1) (z1x0, z1x1) y2_ → slices_IsSorted__uint32_uint32_l0_F ipT (fun z y => slices_IsSorted__uint32_uint32_l0 k z y) z1x0 z1x1 y2_ := by
  unfold slices_IsSorted__uint32_uint32_l0_F
  intro h; simp only [slices_IsSorted__uint32_uint32_l0] at h; revert h
  refine MI.run ?_
  repeat' (first | intro _ | with_reducible constructor)
theorem q38_0_ok (n : Nat) : Owed q38_cx okT 38 q38_lp (n + 0) q38_0_lp := owed_rnd (lk := q38_0_k) (l := slices_IsSorted__uint32_uint32_l0) (fun z y h => h) fun k z q c y h => Eq.mpr (q38_0_t n k z.1 z.2 y) (q38_0_r k z.1 z.2 y h)
def slices_IsSorted__uint32_uint32_F (i : Ip) (a0 : List Int) (y : Bool) : Prop :=
  (i.lo none q38_0_body (∃ y5 : slices_IsSorted__uint32_uint32_l0_Y, slices_IsSorted__uint32_uint32_l0_L (a0, (IntKind.wrap .i64 ((((List.length a0) : Nat) : Int) - 1))) y5 ∧ sume (fun y5 => (false = y)) (fun y5 => (true = y)) y5))
def slices_IsSorted__uint32_uint32_R (a0 : List Int) (y : Bool) : Prop :=
  (∃ y5 : slices_IsSorted__uint32_uint32_l0_Y, slices_IsSorted__uint32_uint32_l0_L (a0, (IntKind.wrap .i64 ((((List.length a0) : Nat) : Int) - 1))) y5 ∧ sume (fun y5 => (false = y)) (fun y5 => (true = y)) y5)
theorem q38_t (a0 : List Int) (y : Bool) : acall q38_cx okT q38_lp 60 (.fn 38 [] []) [(V.sl (.int .u32) a0 none)] [] (leafK B38 y) = slices_IsSorted__uint32_uint32_F ipT a0 y := by kernel_rfl
theorem q38_r (a0 : List Int) (y : Bool) : slices_IsSorted__uint32_uint32_R a0 y → slices_IsSorted__uint32_uint32_F ipT a0 y := by
  unfold slices_IsSorted__uint32_uint32_R slices_IsSorted__uint32_uint32_F
  refine MI.run ?_
  repeat' (first | intro _ | with_reducible constructor)
abbrev r38 (x : A38.den) (y : B38.den) : Prop := slices_IsSorted__uint32_uint32_R x y
theorem slices_IsSorted__uint32_uint32_ok : FxOk Tryz.prog gsT 38 A38 B38 r38 := fo (c := q38_cx) rfl rfl (Fns_assoc ⟨b38, cmp_Less_uint32_ok, trivial⟩) (lp := q38_lp) (n := 60) (LpOk_tab ⟨q38_0_ok, trivial⟩) (enters Tryz.func38 (by kernel_rfl) rfl) (fun y => ⟨_, rfl⟩) fun x y h => Eq.mpr (q38_t _ y) (q38_r _ y h)
def e38 : Nat × Ent := (38, .fx A38 B38 r38)
end Go.Proofs.YtjbpihalfaclkaaGreatDoor
