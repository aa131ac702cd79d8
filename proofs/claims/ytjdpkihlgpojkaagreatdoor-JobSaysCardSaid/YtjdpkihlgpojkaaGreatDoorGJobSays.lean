/- What Go functions come to (printed by gb.py). -/
import Derived.Test.YtjdpkihlgpojkaaGreatDoorGx
namespace Go.Proofs.YtjdpkihlgpojkaaGreatDoor
open Go Go.B Go.RowKit
set_option linter.unusedVariables false
set_option linter.unusedSimpArgs false
set_option maxRecDepth 100000
attribute [local irreducible] Go.B.acall Go.B.acode
noncomputable def c3 : Nat × Ent := (3, .body Tryz.f3)
theorem b3 {c : Cx} : EntOk Tryz.prog c 3 (.body Tryz.f3) := body_ent Tryz.func3 (by kernel_rfl) (by kernel_rfl)
abbrev A3 : RT := (.one (.sl (.pr (.int .u32) (.pr .str (.pr (.int .i64) (.pr (.int .i64) (.pr (.int .i64) (.int .i64))))))))
abbrev B3 : RT := .bool
noncomputable def q3_cx : Cx := ⟨tyT, [c3, e4, e5, e6, e7], gsT, eqT, false⟩
noncomputable def q3_0_body : Code := subC [1, 1, 0, 1, 0, 0] (bodyOf Tryz.f3)
abbrev curfewlaw10_JobSays_l0_Z : Type := (List (Int × ByteArray × Int × Int × Int × Int)) × Int × Int
abbrev curfewlaw10_JobSays_l0_Y : Type := (Unit) ⊕ (Unit)
noncomputable def q3_0_k : LK := ⟨0, ⟨[(11, .sl (.pr (.int .u32) (.pr .str (.pr (.int .i64) (.pr (.int .i64) (.pr (.int .i64) (.int .i64)))))) 0), (12, .w 1), (13, .w 2)], [], []⟩, [.sl (.pr (.int .u32) (.pr .str (.pr (.int .i64) (.pr (.int .i64) (.pr (.int .i64) (.int .i64)))))), .int .i64, .int .i64], [], [], [], [⟨(.exit 0), ⟨[], [], []⟩, [], [], none⟩, ⟨.ret, ⟨[(2, .lb false)], [], []⟩, [], [], none⟩]⟩
def curfewlaw10_JobSays_l0_F (i : Ip) (l : curfewlaw10_JobSays_l0_Z → curfewlaw10_JobSays_l0_Y → Prop) (z2x0 : List (Int × ByteArray × Int × Int × Int × Int)) (z2x1 z2x2 : Int) (y3_ : curfewlaw10_JobSays_l0_Y) : Prop :=
  (br (decide (z2x2 < z2x1)) (i.rq ((decide (0 ≤ z2x2)) && (decide (z2x2 < (((List.length z2x0) : Nat) : Int)))) (br (z2x2 == 6) ((Sum.inl ()) = y3_) (∃ y4 : Int × ByteArray × Int × Int × Int × Int, (curfewlaw10_cut_R ((List.getD z2x0 (Int.toNat z2x2) (0, ((⟨#[]⟩ : ByteArray), (0, (0, (0, 0)))))).1) (((List.getD z2x0 (Int.toNat z2x2) (0, ((⟨#[]⟩ : ByteArray), (0, (0, (0, 0)))))).2).1) ((((List.getD z2x0 (Int.toNat z2x2) (0, ((⟨#[]⟩ : ByteArray), (0, (0, (0, 0)))))).2).2).1) (((((List.getD z2x0 (Int.toNat z2x2) (0, ((⟨#[]⟩ : ByteArray), (0, (0, (0, 0)))))).2).2).2).1) ((((((List.getD z2x0 (Int.toNat z2x2) (0, ((⟨#[]⟩ : ByteArray), (0, (0, (0, 0)))))).2).2).2).2).1) ((((((List.getD z2x0 (Int.toNat z2x2) (0, ((⟨#[]⟩ : ByteArray), (0, (0, (0, 0)))))).2).2).2).2).2) y4) ∧ (∃ y5 : (Int × Bool × Int × Int × Int × Int × Int × Int × Int × Int × Int) × Int, (job_Of_R (y4.1) (y4.2.1) (y4.2.2.1) (y4.2.2.2.1) (y4.2.2.2.2.1) (y4.2.2.2.2.2) y5) ∧ (∃ y6 : (Int × Bool × Int × Int × Int × Int × Int × Int × Int × Int × Int) × Int, (curfewref10_Of_R (y4.1) (y4.2.1) (y4.2.2.1) (y4.2.2.2.1) (y4.2.2.2.2.1) (y4.2.2.2.2.2) y6) ∧ (br (!(((y5.1.1) == (y6.1.1)) && (((y5.1.2.1) == (y6.1.2.1)) && ((((y5.1.2.2.1) == (y6.1.2.2.1)) && (((y5.1.2.2.2.1) == (y6.1.2.2.2.1)) && (((y5.1.2.2.2.2.1) == (y6.1.2.2.2.2.1)) && (((y5.1.2.2.2.2.2.1) == (y6.1.2.2.2.2.2.1)) && (((y5.1.2.2.2.2.2.2.1) == (y6.1.2.2.2.2.2.2.1)) && true))))) && (((y5.1.2.2.2.2.2.2.2.1) == (y6.1.2.2.2.2.2.2.2.1)) && (((y5.1.2.2.2.2.2.2.2.2.1) == (y6.1.2.2.2.2.2.2.2.2.1)) && (((y5.1.2.2.2.2.2.2.2.2.2.1) == (y6.1.2.2.2.2.2.2.2.2.2.1)) && (((y5.1.2.2.2.2.2.2.2.2.2.2) == (y6.1.2.2.2.2.2.2.2.2.2.2)) && true)))))))) ((Sum.inr ()) = y3_) (br ((y5.2) != (y6.2)) ((Sum.inr ()) = y3_) (l (z2x0, z2x1, (IntKind.wrap .i64 (z2x2 + 1))) y3_)))))))) ((Sum.inl ()) = y3_))
def curfewlaw10_JobSays_l0 : Nat → curfewlaw10_JobSays_l0_Z → curfewlaw10_JobSays_l0_Y → Prop
  | 0, _, _ => False
  | k + 1, (z2x0, z2x1, z2x2), y3_ => (br (decide (z2x2 < z2x1)) (req ((decide (0 ≤ z2x2)) && (decide (z2x2 < (((List.length z2x0) : Nat) : Int)))) (br (z2x2 == 6) ((Sum.inl ()) = y3_) (∃ y4 : Int × ByteArray × Int × Int × Int × Int, (curfewlaw10_cut_R ((List.getD z2x0 (Int.toNat z2x2) (0, ((⟨#[]⟩ : ByteArray), (0, (0, (0, 0)))))).1) (((List.getD z2x0 (Int.toNat z2x2) (0, ((⟨#[]⟩ : ByteArray), (0, (0, (0, 0)))))).2).1) ((((List.getD z2x0 (Int.toNat z2x2) (0, ((⟨#[]⟩ : ByteArray), (0, (0, (0, 0)))))).2).2).1) (((((List.getD z2x0 (Int.toNat z2x2) (0, ((⟨#[]⟩ : ByteArray), (0, (0, (0, 0)))))).2).2).2).1) ((((((List.getD z2x0 (Int.toNat z2x2) (0, ((⟨#[]⟩ : ByteArray), (0, (0, (0, 0)))))).2).2).2).2).1) ((((((List.getD z2x0 (Int.toNat z2x2) (0, ((⟨#[]⟩ : ByteArray), (0, (0, (0, 0)))))).2).2).2).2).2) y4) ∧ (∃ y5 : (Int × Bool × Int × Int × Int × Int × Int × Int × Int × Int × Int) × Int, (job_Of_R (y4.1) (y4.2.1) (y4.2.2.1) (y4.2.2.2.1) (y4.2.2.2.2.1) (y4.2.2.2.2.2) y5) ∧ (∃ y6 : (Int × Bool × Int × Int × Int × Int × Int × Int × Int × Int × Int) × Int, (curfewref10_Of_R (y4.1) (y4.2.1) (y4.2.2.1) (y4.2.2.2.1) (y4.2.2.2.2.1) (y4.2.2.2.2.2) y6) ∧ (br (!(((y5.1.1) == (y6.1.1)) && (((y5.1.2.1) == (y6.1.2.1)) && ((((y5.1.2.2.1) == (y6.1.2.2.1)) && (((y5.1.2.2.2.1) == (y6.1.2.2.2.1)) && (((y5.1.2.2.2.2.1) == (y6.1.2.2.2.2.1)) && (((y5.1.2.2.2.2.2.1) == (y6.1.2.2.2.2.2.1)) && (((y5.1.2.2.2.2.2.2.1) == (y6.1.2.2.2.2.2.2.1)) && true))))) && (((y5.1.2.2.2.2.2.2.2.1) == (y6.1.2.2.2.2.2.2.2.1)) && (((y5.1.2.2.2.2.2.2.2.2.1) == (y6.1.2.2.2.2.2.2.2.2.1)) && (((y5.1.2.2.2.2.2.2.2.2.2.1) == (y6.1.2.2.2.2.2.2.2.2.2.1)) && (((y5.1.2.2.2.2.2.2.2.2.2.2) == (y6.1.2.2.2.2.2.2.2.2.2.2)) && true)))))))) ((Sum.inr ()) = y3_) (br ((y5.2) != (y6.2)) ((Sum.inr ()) = y3_) (curfewlaw10_JobSays_l0 k (z2x0, z2x1, (IntKind.wrap .i64 (z2x2 + 1))) y3_)))))))) ((Sum.inl ()) = y3_))
def curfewlaw10_JobSays_l0_L (z : curfewlaw10_JobSays_l0_Z) (y : curfewlaw10_JobSays_l0_Y) : Prop := ∃ k, curfewlaw10_JobSays_l0 k z y
noncomputable def q3_0_lp : Lp := .auto none q3_0_body (loopK q3_0_k fun z y => ∃ k, curfewlaw10_JobSays_l0 k z y)
noncomputable def q3_lp : Nat → FuncId → Nat → Nat → Lp := lpTab [(3, 4, 0, 1, q3_0_lp)]
theorem q3_0_t (n k : Nat) (z2x0 : List (Int × ByteArray × Int × Int × Int × Int)) (z2x1 z2x2 : Int) (y3_ : curfewlaw10_JobSays_l0_Y) : rnd q3_cx okT q3_lp (n + 1) 3 none q3_0_body q3_0_k (curfewlaw10_JobSays_l0 k) (z2x0, z2x1, z2x2) () () y3_ = curfewlaw10_JobSays_l0_F ipT (fun z y => curfewlaw10_JobSays_l0 k z y) z2x0 z2x1 z2x2 y3_ := by kernel_rfl
theorem q3_0_r (k : Nat) (z2x0 : List (Int × ByteArray × Int × Int × Int × Int)) (z2x1 z2x2 : Int) (y3_ : curfewlaw10_JobSays_l0_Y) : curfewlaw10_JobSays_l0 (k + 1) (z2x0, z2x1, z2x2) y3_ → curfewlaw10_JobSays_l0_F ipT (fun z y => curfewlaw10_JobSays_l0 k z y) z2x0 z2x1 z2x2 y3_ := by
  unfold curfewlaw10_JobSays_l0_F
  intro h; simp only [curfewlaw10_JobSays_l0] at h; revert h
  refine MI.run ?_
  repeat' (first | intro _ | with_reducible constructor)
theorem q3_0_ok (n : Nat) : Owed q3_cx okT 3 q3_lp (n + 1) q3_0_lp := owed_rnd (lk := q3_0_k) (l := curfewlaw10_JobSays_l0) (fun z y h => h) fun k z q c y h => Eq.mpr (q3_0_t n k z.1 z.2.1 z.2.2 y) (q3_0_r k z.1 z.2.1 z.2.2 y h)
def curfewlaw10_JobSays_F (i : Ip) (a0 : List (Int × ByteArray × Int × Int × Int × Int)) (y : Bool) : Prop :=
  (∃ y1 : Bool, (curfewlaw10_wakes_R y1) ∧ (br (!y1) (false = y) (i.lo none q3_0_body (∃ y8 : curfewlaw10_JobSays_l0_Y, curfewlaw10_JobSays_l0_L (a0, (((List.length a0) : Nat) : Int), 0) y8 ∧ sume (fun y8 => (true = y)) (fun y8 => (false = y)) y8))))
def curfewlaw10_JobSays_R (a0 : List (Int × ByteArray × Int × Int × Int × Int)) (y : Bool) : Prop :=
  (∃ y1 : Bool, (curfewlaw10_wakes_R y1) ∧ (br (!y1) (false = y) (∃ y8 : curfewlaw10_JobSays_l0_Y, curfewlaw10_JobSays_l0_L (a0, (((List.length a0) : Nat) : Int), 0) y8 ∧ sume (fun y8 => (true = y)) (fun y8 => (false = y)) y8)))
theorem q3_t (a0 : List (Int × ByteArray × Int × Int × Int × Int)) (y : Bool) : acall q3_cx okT q3_lp 60 (.fn 3 [] []) [(V.sl (.pr (.int .u32) (.pr .str (.pr (.int .i64) (.pr (.int .i64) (.pr (.int .i64) (.int .i64)))))) a0 none)] [] (leafK B3 y) = curfewlaw10_JobSays_F ipT a0 y := by kernel_rfl
theorem q3_r (a0 : List (Int × ByteArray × Int × Int × Int × Int)) (y : Bool) : curfewlaw10_JobSays_R a0 y → curfewlaw10_JobSays_F ipT a0 y := by
  unfold curfewlaw10_JobSays_R curfewlaw10_JobSays_F
  refine MI.run ?_
  repeat' (first | intro _ | with_reducible constructor)
abbrev r3 (x : A3.den) (y : B3.den) : Prop := curfewlaw10_JobSays_R x y
theorem curfewlaw10_JobSays_ok : FxOk Tryz.prog gsT 3 A3 B3 r3 := fo (c := q3_cx) rfl rfl (Fns_assoc ⟨b3, curfewlaw10_wakes_ok, curfewlaw10_cut_ok, job_Of_ok, curfewref10_Of_ok, trivial⟩) (lp := q3_lp) (n := 60) (LpOk_tab ⟨q3_0_ok, trivial⟩) (enters Tryz.func3 (by kernel_rfl) rfl) (fun y => ⟨_, rfl⟩) fun x y h => Eq.mpr (q3_t _ y) (q3_r _ y h)
def e3 : Nat × Ent := (3, .fx A3 B3 r3)
end Go.Proofs.YtjdpkihlgpojkaaGreatDoor
