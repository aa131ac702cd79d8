/- What Go functions come to (printed by gb.py). -/
import Derived.Test.YtcbgnicdcdfmiaaDoorGx
namespace Go.Proofs.YtcbgnicdcdfmiaaDoor
open Go Go.B Go.RowKit
set_option linter.unusedVariables false
set_option linter.unusedSimpArgs false
set_option maxRecDepth 100000
attribute [local irreducible] Go.B.acall Go.B.acode
abbrev A3 : RT := (.cons (.int .i64) (.one (.sl .str)))
abbrev B3 : RT := .bool
noncomputable def q3_cx : Cx := ⟨tyT, [(3, .body Tryd.f3), e10, e11, e12, e13, e14], gsT, eqT, false⟩
noncomputable def q3_0_body : Code := subC [1, 1, 0, 1, 0, 0] (bodyOf Tryd.f3)
abbrev curfewlaw06_FieldReads_l0_Z : Type := Int × List ByteArray × Int × Int
abbrev curfewlaw06_FieldReads_l0_Y : Type := (Unit) ⊕ (Unit)
noncomputable def q3_0_k : LK := ⟨0, ⟨[(0, .w 0), (15, .sl .str 1), (16, .w 2), (17, .w 3)], [], []⟩, [.int .i64, .sl .str, .int .i64, .int .i64], [], [], [], [⟨(.exit 0), ⟨[], [], []⟩, [], []⟩, ⟨.ret, ⟨[(4, .lb false)], [], []⟩, [], []⟩]⟩
def curfewlaw06_FieldReads_l0_F (i : Ip) (l : curfewlaw06_FieldReads_l0_Z → curfewlaw06_FieldReads_l0_Y → Prop) (z2x0 : Int) (z2x1 : List ByteArray) (z2x2 : Int) (z2x3 : Int) (y3_ : curfewlaw06_FieldReads_l0_Y) : Prop :=
  (br (decide (z2x3 < z2x2)) (i.rq ((decide (0 ≤ z2x3)) && (decide (z2x3 < (((List.length z2x1) : Nat) : Int)))) (br (z2x3 == 10) ((Sum.inl ()) = y3_) (∃ y4 : ByteArray, (curfewlaw06_cut_R (List.getD z2x1 (Int.toNat z2x3) (⟨#[]⟩ : ByteArray)) y4) ∧ (∃ y5 : Int × Int × Int, (field_Read_R z2x0 y4 y5) ∧ (∃ y6 : Bool, (curfewref06_Kind_R z2x0 y6) ∧ (br y6 (∃ y7 : ByteArray, (curfewlaw06_cut_R (List.getD z2x1 (Int.toNat z2x3) (⟨#[]⟩ : ByteArray)) y7) ∧ (∃ y8 : Int × Int × Int, (curfewref06_Read_R z2x0 y7 y8) ∧ (br ((y5.1) != (y8.1)) ((Sum.inr ()) = y3_) (br ((y5.2.1) != (y8.2.1)) ((Sum.inr ()) = y3_) (br ((y5.2.2) != (y8.2.2)) ((Sum.inr ()) = y3_) (l (z2x0, z2x1, z2x2, (IntKind.wrap .i64 (z2x3 + 1))) y3_)))))) (br ((y5.1) != 0) ((Sum.inr ()) = y3_) (br ((y5.2.1) != 0) ((Sum.inr ()) = y3_) (br ((y5.2.2) != 2) ((Sum.inr ()) = y3_) (l (z2x0, z2x1, z2x2, (IntKind.wrap .i64 (z2x3 + 1))) y3_)))))))))) ((Sum.inl ()) = y3_))
def curfewlaw06_FieldReads_l0 : Nat → curfewlaw06_FieldReads_l0_Z → curfewlaw06_FieldReads_l0_Y → Prop
  | 0, _, _ => False
  | k + 1, (z2x0, z2x1, z2x2, z2x3), y3_ => (br (decide (z2x3 < z2x2)) (req ((decide (0 ≤ z2x3)) && (decide (z2x3 < (((List.length z2x1) : Nat) : Int)))) (br (z2x3 == 10) ((Sum.inl ()) = y3_) (∃ y4 : ByteArray, (curfewlaw06_cut_R (List.getD z2x1 (Int.toNat z2x3) (⟨#[]⟩ : ByteArray)) y4) ∧ (∃ y5 : Int × Int × Int, (field_Read_R z2x0 y4 y5) ∧ (∃ y6 : Bool, (curfewref06_Kind_R z2x0 y6) ∧ (br y6 (∃ y7 : ByteArray, (curfewlaw06_cut_R (List.getD z2x1 (Int.toNat z2x3) (⟨#[]⟩ : ByteArray)) y7) ∧ (∃ y8 : Int × Int × Int, (curfewref06_Read_R z2x0 y7 y8) ∧ (br ((y5.1) != (y8.1)) ((Sum.inr ()) = y3_) (br ((y5.2.1) != (y8.2.1)) ((Sum.inr ()) = y3_) (br ((y5.2.2) != (y8.2.2)) ((Sum.inr ()) = y3_) (curfewlaw06_FieldReads_l0 k (z2x0, z2x1, z2x2, (IntKind.wrap .i64 (z2x3 + 1))) y3_)))))) (br ((y5.1) != 0) ((Sum.inr ()) = y3_) (br ((y5.2.1) != 0) ((Sum.inr ()) = y3_) (br ((y5.2.2) != 2) ((Sum.inr ()) = y3_) (curfewlaw06_FieldReads_l0 k (z2x0, z2x1, z2x2, (IntKind.wrap .i64 (z2x3 + 1))) y3_)))))))))) ((Sum.inl ()) = y3_))
def curfewlaw06_FieldReads_l0_L (z : curfewlaw06_FieldReads_l0_Z) (y : curfewlaw06_FieldReads_l0_Y) : Prop := ∃ k, curfewlaw06_FieldReads_l0 k z y
noncomputable def q3_0_lp : Lp := .auto none q3_0_body (loopK q3_0_k fun z y => ∃ k, curfewlaw06_FieldReads_l0 k z y)
noncomputable def q3_lp : Nat → FuncId → Nat → Nat → Lp := lpTab [(3, 4, 0, 1, q3_0_lp)]
theorem q3_0_t (n k : Nat) (z2x0 : Int) (z2x1 : List ByteArray) (z2x2 : Int) (z2x3 : Int) (y3_ : curfewlaw06_FieldReads_l0_Y) : rnd q3_cx okT q3_lp (n + 1) 3 none q3_0_body q3_0_k (curfewlaw06_FieldReads_l0 k) (z2x0, z2x1, z2x2, z2x3) () () y3_ = curfewlaw06_FieldReads_l0_F ipT (fun z y => curfewlaw06_FieldReads_l0 k z y) z2x0 z2x1 z2x2 z2x3 y3_ := by kernel_rfl
theorem q3_0_r (k : Nat) (z2x0 : Int) (z2x1 : List ByteArray) (z2x2 : Int) (z2x3 : Int) (y3_ : curfewlaw06_FieldReads_l0_Y) : curfewlaw06_FieldReads_l0 (k + 1) (z2x0, z2x1, z2x2, z2x3) y3_ → curfewlaw06_FieldReads_l0_F ipT (fun z y => curfewlaw06_FieldReads_l0 k z y) z2x0 z2x1 z2x2 z2x3 y3_ := by
  unfold curfewlaw06_FieldReads_l0_F
  intro h; simp only [curfewlaw06_FieldReads_l0] at h; revert h
  repeat' (with_reducible first | refine m_br ?_ ?_ | refine m_ex fun _ => ?_ | refine m_and ?_ | refine m_te ?_ | refine m_tf ?_ | refine m_tr ?_ | refine m_r2 ?_ | refine m_rq ?_ | refine m_cp fun _ _ => ?_ | refine m_tq ?_ | refine m_lo ?_ | refine m_sume (fun _ => ?_) (fun _ => ?_) | refine m_cq fun _ => ?_ | refine m_nl ?_ | refine m_an ?_ | refine m_a2 ?_ ?_ | refine m_n2 ?_ ?_ | refine m_tk ?_ | exact id | refine m_all fun _ => ?_ | refine m_and2 ?_ ?_)
theorem q3_0_ok (n : Nat) : Owed q3_cx okT 3 q3_lp (n + 1) q3_0_lp := owed_rnd (lk := q3_0_k) (l := curfewlaw06_FieldReads_l0) (fun z y h => h) fun k z q c y h => Eq.mpr (q3_0_t n k z.1 z.2.1 z.2.2.1 z.2.2.2 y) (q3_0_r k z.1 z.2.1 z.2.2.1 z.2.2.2 y h)
def curfewlaw06_FieldReads_F (i : Ip) (a0 : Int) (a1 : List ByteArray) (y : Bool) : Prop :=
  (∃ y1 : Bool, (curfewlaw06_wakes_R y1) ∧ (br (!y1) (false = y) (i.lo none q3_0_body (∃ y10 : curfewlaw06_FieldReads_l0_Y, curfewlaw06_FieldReads_l0_L (a0, a1, (((List.length a1) : Nat) : Int), 0) y10 ∧ sume (fun y10 => (true = y)) (fun y10 => (false = y)) y10))))
def curfewlaw06_FieldReads_R (a0 : Int) (a1 : List ByteArray) (y : Bool) : Prop :=
  (∃ y1 : Bool, (curfewlaw06_wakes_R y1) ∧ (br (!y1) (false = y) (∃ y10 : curfewlaw06_FieldReads_l0_Y, curfewlaw06_FieldReads_l0_L (a0, a1, (((List.length a1) : Nat) : Int), 0) y10 ∧ sume (fun y10 => (true = y)) (fun y10 => (false = y)) y10)))
theorem q3_t (a0 : Int) (a1 : List ByteArray) (y : Bool) : acall q3_cx okT q3_lp 60 (.fn 3 [] []) [(vi a0), (V.sl .str a1 none)] [] (leafK B3 y) = curfewlaw06_FieldReads_F ipT a0 a1 y := by kernel_rfl
theorem q3_r (a0 : Int) (a1 : List ByteArray) (y : Bool) : curfewlaw06_FieldReads_R a0 a1 y → curfewlaw06_FieldReads_F ipT a0 a1 y := by
  unfold curfewlaw06_FieldReads_R curfewlaw06_FieldReads_F
  repeat' (with_reducible first | refine m_br ?_ ?_ | refine m_ex fun _ => ?_ | refine m_and ?_ | refine m_te ?_ | refine m_tf ?_ | refine m_tr ?_ | refine m_r2 ?_ | refine m_rq ?_ | refine m_cp fun _ _ => ?_ | refine m_tq ?_ | refine m_lo ?_ | refine m_sume (fun _ => ?_) (fun _ => ?_) | refine m_cq fun _ => ?_ | refine m_nl ?_ | refine m_an ?_ | refine m_a2 ?_ ?_ | refine m_n2 ?_ ?_ | refine m_tk ?_ | exact id | refine m_all fun _ => ?_ | refine m_and2 ?_ ?_)
theorem curfewlaw06_FieldReads_ok : FxOk Tryd.prog gsT 3 A3 B3 fun x y => curfewlaw06_FieldReads_R (x.1) (x.2) y := fx_of (c := q3_cx) (ty_ok rfl) (eq_ok rfl) (Fns_assoc ⟨body_ent Tryd.func3 (by kernel_rfl) (by kernel_rfl), curfewlaw06_wakes_ok, field_Read_ok, curfewlaw06_cut_ok, curfewref06_Kind_ok, curfewref06_Read_ok, trivial⟩) follows_ok (ok := okT) (lp := q3_lp) (n := 60) (LpOk_tab ⟨q3_0_ok, trivial⟩) (enters Tryd.func3 (by kernel_rfl) rfl) (fun y => ⟨_, rfl⟩) fun x y h => Eq.mpr (q3_t _ _ y) (q3_r _ _ y h)
def e3 : Nat × Ent := (3, .fx A3 B3 fun x y => curfewlaw06_FieldReads_R (x.1) (x.2) y)
end Go.Proofs.YtcbgnicdcdfmiaaDoor
