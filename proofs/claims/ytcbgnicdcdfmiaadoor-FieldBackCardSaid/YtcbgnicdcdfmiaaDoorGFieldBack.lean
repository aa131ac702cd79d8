/- What Go functions come to (printed by gb.py). -/
import Derived.Test.YtcbgnicdcdfmiaaDoorGx
namespace Go.Proofs.YtcbgnicdcdfmiaaDoor
open Go Go.B Go.RowKit
set_option linter.unusedVariables false
set_option linter.unusedSimpArgs false
set_option maxRecDepth 100000
attribute [local irreducible] Go.B.acall Go.B.acode
abbrev A5 : RT := (.cons (.int .i64) (.cons (.int .u64) (.one .str)))
abbrev B5 : RT := .bool
noncomputable def q5_cx : Cx := ⟨tyT, [(5, .body Tryd.f5), e10, e11, e12, e15, e18], gsT, eqT, false⟩
def curfewlaw06_FieldBack_R (a0 : Int) (a1 : Int) (a2 : ByteArray) (y : Bool) : Prop :=
  (∃ y1 : Bool, (curfewlaw06_wakes_R y1) ∧ (br (!y1) (false = y) (∃ y2 : ByteArray × Int, (field_Text_R a0 a1 y2) ∧ (br ((y2.2) == 0) (∃ y3 : Int × Int × Int, (field_Read_R a0 (y2.1) y3) ∧ (br ((y3.2.2) != 0) (false = y) (br ((y3.2.1) != 0) (false = y) (br ((y3.1) != a1) (false = y) (∃ y4 : ByteArray, (curfewlaw06_cut_R a2 y4) ∧ (∃ y5 : Int × Int × Int, (field_Read_R a0 y4 y5) ∧ (br ((y5.2.2) != 0) (br ((y5.1) == 0) (br (decide ((y5.2.1) ≥ 0)) ((decide ((y5.2.1) ≤ ((ByteArray.size a2 : Nat) : Int))) = y) (false = y)) (false = y)) (∃ y6 : Int, (field_Check_R a0 (y5.1) y6) ∧ (br (y6 != 0) (false = y) (br ((y5.2.1) != 0) (false = y) (∃ y7 : ByteArray × Int, (field_Text_R a0 (y5.1) y7) ∧ (br ((y7.2) != 0) (false = y) (∃ y8 : Int × Int × Int, (field_Read_R a0 (y7.1) y8) ∧ (∃ y9 : ByteArray × Int, (field_Text_R a0 (y8.1) y9) ∧ (br ((y8.2.2) == 0) (br ((y9.2) == 0) (br ((y8.1) == (y5.1)) ((ByteArray.toList (y9.1) == ByteArray.toList (y7.1)) = y) (false = y)) (false = y)) (false = y)))))))))))))))) (∃ y10 : ByteArray, (curfewlaw06_cut_R a2 y10) ∧ (∃ y11 : Int × Int × Int, (field_Read_R a0 y10 y11) ∧ (br ((y11.2.2) != 0) (br ((y11.1) == 0) (br (decide ((y11.2.1) ≥ 0)) ((decide ((y11.2.1) ≤ ((ByteArray.size a2 : Nat) : Int))) = y) (false = y)) (false = y)) (∃ y12 : Int, (field_Check_R a0 (y11.1) y12) ∧ (br (y12 != 0) (false = y) (br ((y11.2.1) != 0) (false = y) (∃ y13 : ByteArray × Int, (field_Text_R a0 (y11.1) y13) ∧ (br ((y13.2) != 0) (false = y) (∃ y14 : Int × Int × Int, (field_Read_R a0 (y13.1) y14) ∧ (∃ y15 : ByteArray × Int, (field_Text_R a0 (y14.1) y15) ∧ (br ((y14.2.2) == 0) (br ((y15.2) == 0) (br ((y14.1) == (y11.1)) ((ByteArray.toList (y15.1) == ByteArray.toList (y13.1)) = y) (false = y)) (false = y)) (false = y))))))))))))))))
theorem q5_t (a0 : Int) (a1 : Int) (a2 : ByteArray) (y : Bool) : acall q5_cx okT lpT 60 (.fn 5 [] []) [(vi a0), (vu a1), (V.str a2)] [] (leafK B5 y) = curfewlaw06_FieldBack_R a0 a1 a2 y := by kernel_rfl
theorem curfewlaw06_FieldBack_ok : FxOk Tryd.prog gsT 5 A5 B5 fun x y => curfewlaw06_FieldBack_R (x.1) (x.2.1) (x.2.2) y := fx_of (c := q5_cx) (ty_ok rfl) (eq_ok rfl) (Fns_assoc ⟨body_ent Tryd.func5 (by kernel_rfl) (by kernel_rfl), curfewlaw06_wakes_ok, field_Read_ok, curfewlaw06_cut_ok, field_Text_ok, field_Check_ok, trivial⟩) follows_ok (ok := okT) (lp := lpT) (n := 60) lp_ok (enters Tryd.func5 (by kernel_rfl) rfl) (fun y => ⟨_, rfl⟩) fun x y h => Eq.mpr (q5_t _ _ _ y) h
def e5 : Nat × Ent := (5, .fx A5 B5 fun x y => curfewlaw06_FieldBack_R (x.1) (x.2.1) (x.2.2) y)
end Go.Proofs.YtcbgnicdcdfmiaaDoor
