/- What Go functions come to (printed by gb.py). -/
import Derived.Test.YtdaaipndjhdliaaDoorGx
namespace Go.Proofs.YtdaaipndjhdliaaDoor
open Go Go.B Go.RowKit
set_option linter.unusedVariables false
set_option linter.unusedSimpArgs false
set_option maxRecDepth 100000
attribute [local irreducible] Go.B.acall Go.B.acode
noncomputable def c3 : Nat × Ent := (3, .body Tryd.f3)
theorem b3 {c : Cx} : EntOk Tryd.prog c 3 (.body Tryd.f3) := body_ent Tryd.func3 (by kernel_rfl) (by kernel_rfl)
noncomputable def c14 : Nat × Ent := (14, .body Tryd.f14)
theorem b14 {c : Cx} : EntOk Tryd.prog c 14 (.body Tryd.f14) := body_ent Tryd.func14 (by kernel_rfl) (by kernel_rfl)
noncomputable def c16 : Nat × Ent := (16, .body Tryd.f16)
theorem b16 {c : Cx} : EntOk Tryd.prog c 16 (.body Tryd.f16) := body_ent Tryd.func16 (by kernel_rfl) (by kernel_rfl)
abbrev A3 : RT := (.cons (.agg (.cons (.int .i64) (.one (.int .u64)))) (.one (.int .i64)))
abbrev B3 : RT := .bool
noncomputable def q3_cx : Cx := ⟨tyT, [c3, e8, c9, c10, c11, c12, c13, c14, c15, c16], gsT, eqT, false, []⟩
def curfewlaw09_WheelNone_R (a0 a1 a2 : Int) (y : Bool) : Prop :=
  (∃ y1 : Bool, (curfewlaw09_wakes_R y1) ∧ (br (!y1) (false = y) (br ((0 == 0) && ((0 == 0) && true)) (true = y) (false = y))))
theorem q3_t (a0 a1 a2 : Int) (y : Bool) : acall q3_cx okT lpT 60 (.fn 3 [] []) [(V.agg [(vi a0), (vu a1)]), (vi a2)] [] (leafK B3 y) = curfewlaw09_WheelNone_R a0 a1 a2 y := by kernel_rfl
abbrev r3 (x : A3.den) (y : B3.den) : Prop := curfewlaw09_WheelNone_R (x.1.1) (x.1.2) (x.2) y
theorem curfewlaw09_WheelNone_ok : FxOk Tryd.prog gsT 3 A3 B3 r3 := fo (c := q3_cx) rfl rfl (Fns_assoc ⟨b3, curfewlaw09_wakes_ok, b9, b10, b11, b12, b13, b14, b15, b16, trivial⟩) (n := 60) (lp_ok) (enters Tryd.func3 (by kernel_rfl) rfl) (fun y => ⟨_, rfl⟩) fun x y h => Eq.mpr (q3_t _ _ _ y) h
def e3 : Nat × Ent := (3, .fx A3 B3 r3)
end Go.Proofs.YtdaaipndjhdliaaDoor
