/- What Go functions come to (printed by gb.py). -/
import Derived.Test.YtjdpkihlgpojkaaGreatDoorGxb
namespace Go.Proofs.YtjdpkihlgpojkaaGreatDoor
open Go Go.B Go.RowKit
set_option linter.unusedVariables false
set_option linter.unusedSimpArgs false
set_option maxRecDepth 100000
attribute [local irreducible] Go.B.acall Go.B.acode
theorem curfewref08_Fit_ok : FxOk Tryz.prog gsT 48 A48 B48 r48 := fo (c := q48_cx) rfl rfl (Fns_assoc ⟨b48, curfewref04_At_ok, curfewref08_fits_ok, curfewref08_behind_ok, trivial⟩) (lp := q48_lp) (n := 60) (LpOk_tab ⟨q48_0_ok, trivial⟩) (enters Tryz.func48 (by kernel_rfl) rfl) (fun y => ⟨_, rfl⟩) fun x y h => Eq.mpr (q48_t _ _ _ _ _ _ _ y) (q48_r _ _ _ _ _ _ _ y h)
def e48 : Nat × Ent := (48, .fx A48 B48 r48)
noncomputable def c31 : Nat × Ent := (31, .body Tryz.f31)
theorem b31 {c : Cx} : EntOk Tryz.prog c 31 (.body Tryz.f31) := body_ent Tryz.func31 (by kernel_rfl) (by kernel_rfl)
abbrev A31 : RT := (.one (.agg (.cons (.int .u64) (.cons (.int .u64) (.cons (.int .u64) (.cons (.int .u64) (.one (.int .u64))))))))
abbrev B31 : RT := .bool
noncomputable def q31_cx : Cx := ⟨tyT, [c31, e48], gsT, eqT, false⟩
def curfewref08_Ever_F (i : Ip) (a0 a1 a2 a3 a4 : Int) (y : Bool) : Prop :=
  (∃ y1 : List Int, (curfewref08_Fit_R a0 a1 a2 a3 a4 0 2922 y1) ∧ (i.cp (List.length y1) fun c2 hc2 => ((decide ((((List.length y1) : Nat) : Int) > 0)) = y)))
def curfewref08_Ever_R (a0 a1 a2 a3 a4 : Int) (y : Bool) : Prop :=
  (∃ y1 : List Int, (curfewref08_Fit_R a0 a1 a2 a3 a4 0 2922 y1) ∧ ((decide ((((List.length y1) : Nat) : Int) > 0)) = y))
theorem q31_t (a0 a1 a2 a3 a4 : Int) (y : Bool) : acall q31_cx okT lpT 60 (.fn 31 [] []) [(V.agg [(vu a0), (vu a1), (vu a2), (vu a3), (vu a4)])] [] (leafK B31 y) = curfewref08_Ever_F ipT a0 a1 a2 a3 a4 y := by kernel_rfl
theorem q31_r (a0 a1 a2 a3 a4 : Int) (y : Bool) : curfewref08_Ever_R a0 a1 a2 a3 a4 y → curfewref08_Ever_F ipT a0 a1 a2 a3 a4 y := by
  unfold curfewref08_Ever_R curfewref08_Ever_F
  refine MI.run ?_
  repeat' (first | intro _ | with_reducible constructor)
abbrev r31 (x : A31.den) (y : B31.den) : Prop := curfewref08_Ever_R (x.1) (x.2.1) (x.2.2.1) (x.2.2.2.1) (x.2.2.2.2) y
theorem curfewref08_Ever_ok : FxOk Tryz.prog gsT 31 A31 B31 r31 := fo (c := q31_cx) rfl rfl (Fns_assoc ⟨b31, curfewref08_Fit_ok, trivial⟩) (n := 60) (lp_ok) (enters Tryz.func31 (by kernel_rfl) rfl) (fun y => ⟨_, rfl⟩) fun x y h => Eq.mpr (q31_t _ _ _ _ _ y) (q31_r _ _ _ _ _ y h)
def e31 : Nat × Ent := (31, .fx A31 B31 r31)
noncomputable def c17 : Nat × Ent := (17, .body Tryz.f17)
theorem b17 {c : Cx} : EntOk Tryz.prog c 17 (.body Tryz.f17) := body_ent Tryz.func17 (by kernel_rfl) (by kernel_rfl)
abbrev A17 : RT := (.one (.agg (.cons (.int .u32) (.cons .bool (.cons (.int .u64) (.cons (.int .u64) (.cons (.int .u64) (.cons (.int .u64) (.cons (.int .u64) (.cons (.int .i64) (.cons (.int .i64) (.cons (.int .i64) (.one (.int .i64))))))))))))))
abbrev B17 : RT := (.int .i64)
noncomputable def q17_cx : Cx := ⟨tyT, [e14, e15, c17, e30, e31], gsT, eqT, false⟩
def curfewref10_Check_R (a0 : Int) (a1 : Bool) (a2 a3 a4 a5 a6 a7 a8 a9 a10 : Int) (y : Int) : Prop :=
  (∃ y1 : Bool, (curfewref10_plain_R a0 a8 a9 a10 y1) ∧ (br (!y1) (200 = y) (br a1 (∃ y2 : Bool, (curfewref10_time_R a7 y2) ∧ (br (!y2) (200 = y) (br (!((a2 == 0) && ((a3 == 0) && ((a4 == 0) && ((a5 == 0) && ((a6 == 0) && true)))))) (200 = y) (0 = y)))) (br (a7 != 0) (200 = y) (∃ y3 : Bool, (curfewref07_Right_R a2 a3 a4 a5 a6 y3) ∧ (br (!y3) (200 = y) (∃ y4 : Bool, (curfewref08_Ever_R a2 a3 a4 a5 a6 y4) ∧ (br (!y4) (201 = y) (0 = y)))))))))
theorem q17_t (a0 : Int) (a1 : Bool) (a2 a3 a4 a5 a6 a7 a8 a9 a10 : Int) (y : Int) : acall q17_cx okT lpT 60 (.fn 17 [] []) [(V.agg [(V.int .u32 a0), (vb a1), (vu a2), (vu a3), (vu a4), (vu a5), (vu a6), (vi a7), (vi a8), (vi a9), (vi a10)])] [] (leafK B17 y) = curfewref10_Check_R a0 a1 a2 a3 a4 a5 a6 a7 a8 a9 a10 y := by kernel_rfl
abbrev r17 (x : A17.den) (y : B17.den) : Prop := curfewref10_Check_R (x.1) (x.2.1) (x.2.2.1) (x.2.2.2.1) (x.2.2.2.2.1) (x.2.2.2.2.2.1) (x.2.2.2.2.2.2.1) (x.2.2.2.2.2.2.2.1) (x.2.2.2.2.2.2.2.2.1) (x.2.2.2.2.2.2.2.2.2.1) (x.2.2.2.2.2.2.2.2.2.2) y
theorem curfewref10_Check_ok : FxOk Tryz.prog gsT 17 A17 B17 r17 := fo (c := q17_cx) rfl rfl (Fns_assoc ⟨curfewref10_plain_ok, curfewref10_time_ok, b17, curfewref07_Right_ok, curfewref08_Ever_ok, trivial⟩) (n := 60) (lp_ok) (enters Tryz.func17 (by kernel_rfl) rfl) (fun y => ⟨_, rfl⟩) fun x y h => Eq.mpr (q17_t _ _ _ _ _ _ _ _ _ _ _ y) h
def e17 : Nat × Ent := (17, .fx A17 B17 r17)
noncomputable def c7 : Nat × Ent := (7, .body Tryz.f7)
theorem b7 {c : Cx} : EntOk Tryz.prog c 7 (.body Tryz.f7) := body_ent Tryz.func7 (by kernel_rfl) (by kernel_rfl)
abbrev A7 : RT := (.one (.agg (.cons (.int .u32) (.cons .str (.cons (.int .i64) (.cons (.int .i64) (.cons (.int .i64) (.one (.int .i64)))))))))
abbrev B7 : RT := (.tup (.cons (.agg (.cons (.int .u32) (.cons .bool (.cons (.int .u64) (.cons (.int .u64) (.cons (.int .u64) (.cons (.int .u64) (.cons (.int .u64) (.cons (.int .i64) (.cons (.int .i64) (.cons (.int .i64) (.one (.int .i64))))))))))))) (.one (.int .i64))))
noncomputable def q7_cx : Cx := ⟨tyT, [c7, e14, e15, e16, e17], gsT, eqT, false⟩
def curfewref10_Of_j0 (p0 : ByteArray) (p1 p2 p3 p4 p5 : Int) (y : (Int × Bool × Int × Int × Int × Int × Int × Int × Int × Int × Int) × Int) : Prop :=
  (br (ByteArray.toList p0 == ByteArray.toList (⟨#[]⟩ : ByteArray)) (((p1, (true, (0, (0, (0, (0, (0, (p2, (p3, (p4, p5)))))))))), 0) = y) (br (decide (((ByteArray.size p0 : Nat) : Int) > 256)) (((0, (false, (0, (0, (0, (0, (0, (0, (0, (0, 0)))))))))), 3) = y) (∃ y3 : (Int × Int × Int × Int × Int) × Int × Bool, (curfewref07_Read_R p0 y3) ∧ (br (!(y3.2.2)) (((0, (false, (0, (0, (0, (0, (0, (0, (0, (0, 0)))))))))), 170) = y) (∃ y4 : Int, (curfewref10_Check_R p1 false (y3.1.1) (y3.1.2.1) (y3.1.2.2.1) (y3.1.2.2.2.1) (y3.1.2.2.2.2) 0 p3 p4 p5 y4) ∧ (br (y4 != 0) (((0, (false, (0, (0, (0, (0, (0, (0, (0, (0, 0)))))))))), y4) = y) (((p1, (false, ((y3.1.1), ((y3.1.2.1), ((y3.1.2.2.1), ((y3.1.2.2.2.1), ((y3.1.2.2.2.2), (0, (p3, (p4, p5)))))))))), 0) = y)))))))
def curfewref10_Of_j0F (i : Ip) (p0 : ByteArray) (p1 p2 p3 p4 p5 : Int) (y : (Int × Bool × Int × Int × Int × Int × Int × Int × Int × Int × Int) × Int) : Prop :=
  (br (ByteArray.toList p0 == ByteArray.toList (⟨#[]⟩ : ByteArray)) (i.an 1 (((p1, (true, (0, (0, (0, (0, (0, (p2, (p3, (p4, p5)))))))))), 0) = y)) (br (decide (((ByteArray.size p0 : Nat) : Int) > 256)) (((0, (false, (0, (0, (0, (0, (0, (0, (0, (0, 0)))))))))), 3) = y) (∃ y3 : (Int × Int × Int × Int × Int) × Int × Bool, (curfewref07_Read_R p0 y3) ∧ (br (!(y3.2.2)) (((0, (false, (0, (0, (0, (0, (0, (0, (0, (0, 0)))))))))), 170) = y) (∃ y4 : Int, (curfewref10_Check_R p1 false (y3.1.1) (y3.1.2.1) (y3.1.2.2.1) (y3.1.2.2.2.1) (y3.1.2.2.2.2) 0 p3 p4 p5 y4) ∧ (br (y4 != 0) (((0, (false, (0, (0, (0, (0, (0, (0, (0, (0, 0)))))))))), y4) = y) (((p1, (false, ((y3.1.1), ((y3.1.2.1), ((y3.1.2.2.1), ((y3.1.2.2.2.1), ((y3.1.2.2.2.2), (0, (p3, (p4, p5)))))))))), 0) = y)))))))
theorem curfewref10_Of_j0_r (p0 : ByteArray) (p1 p2 p3 p4 p5 : Int) (y : (Int × Bool × Int × Int × Int × Int × Int × Int × Int × Int × Int) × Int) : MI (curfewref10_Of_j0 p0 p1 p2 p3 p4 p5 y) (curfewref10_Of_j0F ipT p0 p1 p2 p3 p4 p5 y) := by
  unfold curfewref10_Of_j0 curfewref10_Of_j0F
  repeat' (first | intro _ | with_reducible constructor)
def curfewref10_Of_j1 (p0 : ByteArray) (p1 p2 p3 p4 p5 : Int) (y : (Int × Bool × Int × Int × Int × Int × Int × Int × Int × Int × Int) × Int) : Prop :=
  (br (!(ByteArray.toList p0 == ByteArray.toList (⟨#[]⟩ : ByteArray))) (br (p1 != 0) (((0, (false, (0, (0, (0, (0, (0, (0, (0, (0, 0)))))))))), 200) = y) (curfewref10_Of_j0 p0 p2 p1 p3 p4 p5 y)) (curfewref10_Of_j0 p0 p2 p1 p3 p4 p5 y))
def curfewref10_Of_j1F (i : Ip) (p0 : ByteArray) (p1 p2 p3 p4 p5 : Int) (y : (Int × Bool × Int × Int × Int × Int × Int × Int × Int × Int × Int) × Int) : Prop :=
  (br (!(ByteArray.toList p0 == ByteArray.toList (⟨#[]⟩ : ByteArray))) (br (p1 != 0) (((0, (false, (0, (0, (0, (0, (0, (0, (0, (0, 0)))))))))), 200) = y) (curfewref10_Of_j0F i p0 p2 p1 p3 p4 p5 y)) (curfewref10_Of_j0F i p0 p2 p1 p3 p4 p5 y))
theorem curfewref10_Of_j1_r (p0 : ByteArray) (p1 p2 p3 p4 p5 : Int) (y : (Int × Bool × Int × Int × Int × Int × Int × Int × Int × Int × Int) × Int) : MI (curfewref10_Of_j1 p0 p1 p2 p3 p4 p5 y) (curfewref10_Of_j1F ipT p0 p1 p2 p3 p4 p5 y) := by
  unfold curfewref10_Of_j1 curfewref10_Of_j1F
  repeat' (first | intro _ | exact curfewref10_Of_j0_r _ _ _ _ _ _ _ | with_reducible constructor)
def curfewref10_Of_F (i : Ip) (a0 : Int) (a1 : ByteArray) (a2 a3 a4 a5 : Int) (y : (Int × Bool × Int × Int × Int × Int × Int × Int × Int × Int × Int) × Int) : Prop :=
  (∃ y1 : Bool, (curfewref10_plain_R a0 a3 a4 a5 y1) ∧ (br (!y1) (((0, (false, (0, (0, (0, (0, (0, (0, (0, (0, 0)))))))))), 200) = y) (br (ByteArray.toList a1 == ByteArray.toList (⟨#[]⟩ : ByteArray)) (∃ y2 : Bool, (curfewref10_time_R a2 y2) ∧ (br (!y2) (((0, (false, (0, (0, (0, (0, (0, (0, (0, (0, 0)))))))))), 200) = y) (curfewref10_Of_j1F i a1 a2 a0 a3 a4 a5 y))) (curfewref10_Of_j1F i a1 a2 a0 a3 a4 a5 y))))
def curfewref10_Of_R (a0 : Int) (a1 : ByteArray) (a2 a3 a4 a5 : Int) (y : (Int × Bool × Int × Int × Int × Int × Int × Int × Int × Int × Int) × Int) : Prop :=
  (∃ y1 : Bool, (curfewref10_plain_R a0 a3 a4 a5 y1) ∧ (br (!y1) (((0, (false, (0, (0, (0, (0, (0, (0, (0, (0, 0)))))))))), 200) = y) (br (ByteArray.toList a1 == ByteArray.toList (⟨#[]⟩ : ByteArray)) (∃ y2 : Bool, (curfewref10_time_R a2 y2) ∧ (br (!y2) (((0, (false, (0, (0, (0, (0, (0, (0, (0, (0, 0)))))))))), 200) = y) (curfewref10_Of_j1 a1 a2 a0 a3 a4 a5 y))) (curfewref10_Of_j1 a1 a2 a0 a3 a4 a5 y))))
theorem q7_t (a0 : Int) (a1 : ByteArray) (a2 a3 a4 a5 : Int) (y : (Int × Bool × Int × Int × Int × Int × Int × Int × Int × Int × Int) × Int) : acall q7_cx okT lpT 60 (.fn 7 [] []) [(V.agg [(V.int .u32 a0), (V.str a1), (vi a2), (vi a3), (vi a4), (vi a5)])] [] (leafK B7 y) = curfewref10_Of_F ipT a0 a1 a2 a3 a4 a5 y := by kernel_rfl
theorem q7_r (a0 : Int) (a1 : ByteArray) (a2 a3 a4 a5 : Int) (y : (Int × Bool × Int × Int × Int × Int × Int × Int × Int × Int × Int) × Int) : curfewref10_Of_R a0 a1 a2 a3 a4 a5 y → curfewref10_Of_F ipT a0 a1 a2 a3 a4 a5 y := by
  unfold curfewref10_Of_R curfewref10_Of_F
  refine MI.run ?_
  repeat' (first | intro _ | exact curfewref10_Of_j1_r _ _ _ _ _ _ _ | with_reducible constructor)
abbrev r7 (x : A7.den) (y : B7.den) : Prop := curfewref10_Of_R (x.1) (x.2.1) (x.2.2.1) (x.2.2.2.1) (x.2.2.2.2.1) (x.2.2.2.2.2) y
theorem curfewref10_Of_ok : FxOk Tryz.prog gsT 7 A7 B7 r7 := fo (c := q7_cx) rfl rfl (Fns_assoc ⟨b7, curfewref10_plain_ok, curfewref10_time_ok, curfewref07_Read_ok, curfewref10_Check_ok, trivial⟩) (n := 60) (lp_ok) (enters Tryz.func7 (by kernel_rfl) rfl) (fun y => ⟨_, rfl⟩) fun x y h => Eq.mpr (q7_t _ _ _ _ _ _ y) (q7_r _ _ _ _ _ _ y h)
def e7 : Nat × Ent := (7, .fx A7 B7 r7)
end Go.Proofs.YtjdpkihlgpojkaaGreatDoor
