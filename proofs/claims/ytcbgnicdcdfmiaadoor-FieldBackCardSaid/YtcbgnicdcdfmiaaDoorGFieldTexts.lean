/- What Go functions come to (printed by gb.py). -/
import Derived.Test.YtcbgnicdcdfmiaaDoorGx
namespace Go.Proofs.YtcbgnicdcdfmiaaDoor
open Go Go.B Go.RowKit
set_option linter.unusedVariables false
set_option linter.unusedSimpArgs false
set_option maxRecDepth 100000
attribute [local irreducible] Go.B.acall Go.B.acode
abbrev A4 : RT := (.cons (.int .i64) (.one (.sl (.int .u64))))
abbrev B4 : RT := .bool
noncomputable def q4_cx : Cx := ⟨tyT, [(4, .body Tryd.f4), e10, e13, e15, e16, e17], gsT, eqT, false⟩
noncomputable def q4_0_body : Code := subC [1, 1, 0, 1, 0, 0] (bodyOf Tryd.f4)
abbrev curfewlaw06_FieldTexts_l0_Z : Type := Int × List Int × Int × Int
abbrev curfewlaw06_FieldTexts_l0_Y : Type := (Unit) ⊕ (Unit)
noncomputable def q4_0_k : LK := ⟨0, ⟨[(0, .w 0), (13, .sl (.int .u64) 1), (14, .w 2), (15, .w 3)], [], []⟩, [.int .i64, .sl (.int .u64), .int .i64, .int .i64], [], [], [], [⟨(.exit 0), ⟨[], [], []⟩, [], []⟩, ⟨.ret, ⟨[(4, .lb false)], [], []⟩, [], []⟩]⟩
def curfewlaw06_FieldTexts_l0_F (i : Ip) (l : curfewlaw06_FieldTexts_l0_Z → curfewlaw06_FieldTexts_l0_Y → Prop) (z2x0 : Int) (z2x1 : List Int) (z2x2 : Int) (z2x3 : Int) (y3_ : curfewlaw06_FieldTexts_l0_Y) : Prop :=
  (br (decide (z2x3 < z2x2)) (i.rq ((decide (0 ≤ z2x3)) && (decide (z2x3 < (((List.length z2x1) : Nat) : Int)))) (br (z2x3 == 12) ((Sum.inl ()) = y3_) (∃ y4 : ByteArray × Int, (field_Text_R z2x0 (List.getD z2x1 (Int.toNat z2x3) 0) y4) ∧ (∃ y5 : Bool, (curfewref06_Kind_R z2x0 y5) ∧ (br y5 (∃ y6 : Bool, (curfewref06_Right_R z2x0 (List.getD z2x1 (Int.toNat z2x3) 0) y6) ∧ (br y6 (∃ y7 : ByteArray, (curfewref06_Text_R z2x0 (List.getD z2x1 (Int.toNat z2x3) 0) y7) ∧ (br (!(ByteArray.toList (y4.1) == ByteArray.toList y7)) ((Sum.inr ()) = y3_) (br ((y4.2) != 0) ((Sum.inr ()) = y3_) (l (z2x0, z2x1, z2x2, (IntKind.wrap .i64 (z2x3 + 1))) y3_)))) (br (!(ByteArray.toList (y4.1) == ByteArray.toList (⟨#[]⟩ : ByteArray))) ((Sum.inr ()) = y3_) (br ((y4.2) != 160) ((Sum.inr ()) = y3_) (l (z2x0, z2x1, z2x2, (IntKind.wrap .i64 (z2x3 + 1))) y3_))))) (br (!(ByteArray.toList (y4.1) == ByteArray.toList (⟨#[]⟩ : ByteArray))) ((Sum.inr ()) = y3_) (br ((y4.2) != 2) ((Sum.inr ()) = y3_) (l (z2x0, z2x1, z2x2, (IntKind.wrap .i64 (z2x3 + 1))) y3_)))))))) ((Sum.inl ()) = y3_))
def curfewlaw06_FieldTexts_l0 : Nat → curfewlaw06_FieldTexts_l0_Z → curfewlaw06_FieldTexts_l0_Y → Prop
  | 0, _, _ => False
  | k + 1, (z2x0, z2x1, z2x2, z2x3), y3_ => (br (decide (z2x3 < z2x2)) (req ((decide (0 ≤ z2x3)) && (decide (z2x3 < (((List.length z2x1) : Nat) : Int)))) (br (z2x3 == 12) ((Sum.inl ()) = y3_) (∃ y4 : ByteArray × Int, (field_Text_R z2x0 (List.getD z2x1 (Int.toNat z2x3) 0) y4) ∧ (∃ y5 : Bool, (curfewref06_Kind_R z2x0 y5) ∧ (br y5 (∃ y6 : Bool, (curfewref06_Right_R z2x0 (List.getD z2x1 (Int.toNat z2x3) 0) y6) ∧ (br y6 (∃ y7 : ByteArray, (curfewref06_Text_R z2x0 (List.getD z2x1 (Int.toNat z2x3) 0) y7) ∧ (br (!(ByteArray.toList (y4.1) == ByteArray.toList y7)) ((Sum.inr ()) = y3_) (br ((y4.2) != 0) ((Sum.inr ()) = y3_) (curfewlaw06_FieldTexts_l0 k (z2x0, z2x1, z2x2, (IntKind.wrap .i64 (z2x3 + 1))) y3_)))) (br (!(ByteArray.toList (y4.1) == ByteArray.toList (⟨#[]⟩ : ByteArray))) ((Sum.inr ()) = y3_) (br ((y4.2) != 160) ((Sum.inr ()) = y3_) (curfewlaw06_FieldTexts_l0 k (z2x0, z2x1, z2x2, (IntKind.wrap .i64 (z2x3 + 1))) y3_))))) (br (!(ByteArray.toList (y4.1) == ByteArray.toList (⟨#[]⟩ : ByteArray))) ((Sum.inr ()) = y3_) (br ((y4.2) != 2) ((Sum.inr ()) = y3_) (curfewlaw06_FieldTexts_l0 k (z2x0, z2x1, z2x2, (IntKind.wrap .i64 (z2x3 + 1))) y3_)))))))) ((Sum.inl ()) = y3_))
def curfewlaw06_FieldTexts_l0_L (z : curfewlaw06_FieldTexts_l0_Z) (y : curfewlaw06_FieldTexts_l0_Y) : Prop := ∃ k, curfewlaw06_FieldTexts_l0 k z y
noncomputable def q4_0_lp : Lp := .auto none q4_0_body (loopK q4_0_k fun z y => ∃ k, curfewlaw06_FieldTexts_l0 k z y)
noncomputable def q4_lp : Nat → FuncId → Nat → Nat → Lp := lpTab [(4, 4, 0, 1, q4_0_lp)]
theorem q4_0_t (n k : Nat) (z2x0 : Int) (z2x1 : List Int) (z2x2 : Int) (z2x3 : Int) (y3_ : curfewlaw06_FieldTexts_l0_Y) : rnd q4_cx okT q4_lp (n + 1) 4 none q4_0_body q4_0_k (curfewlaw06_FieldTexts_l0 k) (z2x0, z2x1, z2x2, z2x3) () () y3_ = curfewlaw06_FieldTexts_l0_F ipT (fun z y => curfewlaw06_FieldTexts_l0 k z y) z2x0 z2x1 z2x2 z2x3 y3_ := by kernel_rfl
theorem q4_0_r (k : Nat) (z2x0 : Int) (z2x1 : List Int) (z2x2 : Int) (z2x3 : Int) (y3_ : curfewlaw06_FieldTexts_l0_Y) : curfewlaw06_FieldTexts_l0 (k + 1) (z2x0, z2x1, z2x2, z2x3) y3_ → curfewlaw06_FieldTexts_l0_F ipT (fun z y => curfewlaw06_FieldTexts_l0 k z y) z2x0 z2x1 z2x2 z2x3 y3_ := by
  unfold curfewlaw06_FieldTexts_l0_F
  intro h; simp only [curfewlaw06_FieldTexts_l0] at h; revert h
  repeat' (with_reducible first | refine m_br ?_ ?_ | refine m_ex fun _ => ?_ | refine m_and ?_ | refine m_te ?_ | refine m_tf ?_ | refine m_tr ?_ | refine m_r2 ?_ | refine m_rq ?_ | refine m_cp fun _ _ => ?_ | refine m_tq ?_ | refine m_lo ?_ | refine m_sume (fun _ => ?_) (fun _ => ?_) | refine m_cq fun _ => ?_ | refine m_nl ?_ | refine m_an ?_ | refine m_a2 ?_ ?_ | refine m_n2 ?_ ?_ | refine m_tk ?_ | exact id | refine m_all fun _ => ?_ | refine m_and2 ?_ ?_)
theorem q4_0_ok (n : Nat) : Owed q4_cx okT 4 q4_lp (n + 1) q4_0_lp := owed_rnd (lk := q4_0_k) (l := curfewlaw06_FieldTexts_l0) (fun z y h => h) fun k z q c y h => Eq.mpr (q4_0_t n k z.1 z.2.1 z.2.2.1 z.2.2.2 y) (q4_0_r k z.1 z.2.1 z.2.2.1 z.2.2.2 y h)
def curfewlaw06_FieldTexts_F (i : Ip) (a0 : Int) (a1 : List Int) (y : Bool) : Prop :=
  (∃ y1 : Bool, (curfewlaw06_wakes_R y1) ∧ (br (!y1) (false = y) (i.lo none q4_0_body (∃ y9 : curfewlaw06_FieldTexts_l0_Y, curfewlaw06_FieldTexts_l0_L (a0, a1, (((List.length a1) : Nat) : Int), 0) y9 ∧ sume (fun y9 => (true = y)) (fun y9 => (false = y)) y9))))
def curfewlaw06_FieldTexts_R (a0 : Int) (a1 : List Int) (y : Bool) : Prop :=
  (∃ y1 : Bool, (curfewlaw06_wakes_R y1) ∧ (br (!y1) (false = y) (∃ y9 : curfewlaw06_FieldTexts_l0_Y, curfewlaw06_FieldTexts_l0_L (a0, a1, (((List.length a1) : Nat) : Int), 0) y9 ∧ sume (fun y9 => (true = y)) (fun y9 => (false = y)) y9)))
theorem q4_t (a0 : Int) (a1 : List Int) (y : Bool) : acall q4_cx okT q4_lp 60 (.fn 4 [] []) [(vi a0), (V.sl (.int .u64) a1 none)] [] (leafK B4 y) = curfewlaw06_FieldTexts_F ipT a0 a1 y := by kernel_rfl
theorem q4_r (a0 : Int) (a1 : List Int) (y : Bool) : curfewlaw06_FieldTexts_R a0 a1 y → curfewlaw06_FieldTexts_F ipT a0 a1 y := by
  unfold curfewlaw06_FieldTexts_R curfewlaw06_FieldTexts_F
  repeat' (with_reducible first | refine m_br ?_ ?_ | refine m_ex fun _ => ?_ | refine m_and ?_ | refine m_te ?_ | refine m_tf ?_ | refine m_tr ?_ | refine m_r2 ?_ | refine m_rq ?_ | refine m_cp fun _ _ => ?_ | refine m_tq ?_ | refine m_lo ?_ | refine m_sume (fun _ => ?_) (fun _ => ?_) | refine m_cq fun _ => ?_ | refine m_nl ?_ | refine m_an ?_ | refine m_a2 ?_ ?_ | refine m_n2 ?_ ?_ | refine m_tk ?_ | exact id | refine m_all fun _ => ?_ | refine m_and2 ?_ ?_)
theorem curfewlaw06_FieldTexts_ok : FxOk Tryd.prog gsT 4 A4 B4 fun x y => curfewlaw06_FieldTexts_R (x.1) (x.2) y := fx_of (c := q4_cx) (ty_ok rfl) (eq_ok rfl) (Fns_assoc ⟨body_ent Tryd.func4 (by kernel_rfl) (by kernel_rfl), curfewlaw06_wakes_ok, curfewref06_Kind_ok, field_Text_ok, curfewref06_Right_ok, curfewref06_Text_ok, trivial⟩) follows_ok (ok := okT) (lp := q4_lp) (n := 60) (LpOk_tab ⟨q4_0_ok, trivial⟩) (enters Tryd.func4 (by kernel_rfl) rfl) (fun y => ⟨_, rfl⟩) fun x y h => Eq.mpr (q4_t _ _ y) (q4_r _ _ y h)
def e4 : Nat × Ent := (4, .fx A4 B4 fun x y => curfewlaw06_FieldTexts_R (x.1) (x.2) y)
end Go.Proofs.YtcbgnicdcdfmiaaDoor
