/- What Go functions come to (printed by gb.py). -/
import Derived.Test.YtjbpihalfaclkaaGreatDoorGxa
namespace Go.Proofs.YtjbpihalfaclkaaGreatDoor
open Go Go.B Go.RowKit
set_option linter.unusedVariables false
set_option linter.unusedSimpArgs false
set_option maxRecDepth 100000
attribute [local irreducible] Go.B.acall Go.B.acode
def cron_Macro_R (a0 : ByteArray) (y : (Int × Int × Int × Int × Int) × Bool) : Prop :=
  (br (ByteArray.toList (⟨#[64, 121, 101, 97, 114, 108, 121]⟩ : ByteArray) == ByteArray.toList a0) (∃ y1 : (Int × Int × Int × Int × Int) × Int × Int, (cron_Read0_R (⟨#[48, 32, 48, 32, 49, 32, 49, 32, 42]⟩ : ByteArray) y1) ∧ (((y1.1), ((y1.2.2) == 0)) = y)) (br (ByteArray.toList (⟨#[64, 97, 110, 110, 117, 97, 108, 108, 121]⟩ : ByteArray) == ByteArray.toList a0) (∃ y2 : (Int × Int × Int × Int × Int) × Int × Int, (cron_Read0_R (⟨#[48, 32, 48, 32, 49, 32, 49, 32, 42]⟩ : ByteArray) y2) ∧ (((y2.1), ((y2.2.2) == 0)) = y)) (br (ByteArray.toList (⟨#[64, 109, 111, 110, 116, 104, 108, 121]⟩ : ByteArray) == ByteArray.toList a0) (∃ y3 : (Int × Int × Int × Int × Int) × Int × Int, (cron_Read0_R (⟨#[48, 32, 48, 32, 49, 32, 42, 32, 42]⟩ : ByteArray) y3) ∧ (((y3.1), ((y3.2.2) == 0)) = y)) (br (ByteArray.toList (⟨#[64, 119, 101, 101, 107, 108, 121]⟩ : ByteArray) == ByteArray.toList a0) (∃ y4 : (Int × Int × Int × Int × Int) × Int × Int, (cron_Read0_R (⟨#[48, 32, 48, 32, 42, 32, 42, 32, 48]⟩ : ByteArray) y4) ∧ (((y4.1), ((y4.2.2) == 0)) = y)) (br (ByteArray.toList (⟨#[64, 100, 97, 105, 108, 121]⟩ : ByteArray) == ByteArray.toList a0) (∃ y5 : (Int × Int × Int × Int × Int) × Int × Int, (cron_Read0_R (⟨#[48, 32, 48, 32, 42, 32, 42, 32, 42]⟩ : ByteArray) y5) ∧ (((y5.1), ((y5.2.2) == 0)) = y)) (br (ByteArray.toList (⟨#[64, 109, 105, 100, 110, 105, 103, 104, 116]⟩ : ByteArray) == ByteArray.toList a0) (∃ y6 : (Int × Int × Int × Int × Int) × Int × Int, (cron_Read0_R (⟨#[48, 32, 48, 32, 42, 32, 42, 32, 42]⟩ : ByteArray) y6) ∧ (((y6.1), ((y6.2.2) == 0)) = y)) (br (ByteArray.toList (⟨#[64, 104, 111, 117, 114, 108, 121]⟩ : ByteArray) == ByteArray.toList a0) (∃ y7 : (Int × Int × Int × Int × Int) × Int × Int, (cron_Read0_R (⟨#[48, 32, 42, 32, 42, 32, 42, 32, 42]⟩ : ByteArray) y7) ∧ (((y7.1), ((y7.2.2) == 0)) = y)) (((0, (0, (0, (0, 0)))), false) = y))))))))
theorem q48_t (a0 : ByteArray) (y : (Int × Int × Int × Int × Int) × Bool) : acall q48_cx okT lpT 60 (.fn 48 [] []) [(V.str a0)] [] (leafK B48 y) = cron_Macro_R a0 y := by kernel_rfl
abbrev r48 (x : A48.den) (y : B48.den) : Prop := cron_Macro_R x y
theorem cron_Macro_ok : FxOk Tryz.prog gsT 48 A48 B48 r48 := fo (c := q48_cx) rfl rfl (Fns_assoc ⟨cron_Read0_ok, b48, trivial⟩) (n := 60) (lp_ok) (enters Tryz.func48 (by kernel_rfl) rfl) (fun y => ⟨_, rfl⟩) fun x y h => Eq.mpr (q48_t _ y) h
def e48 : Nat × Ent := (48, .fx A48 B48 r48)
abbrev A46 : RT := (.one .str)
abbrev B46 : RT := (.tup (.cons (.agg (.cons (.int .u64) (.cons (.int .u64) (.cons (.int .u64) (.cons (.int .u64) (.one (.int .u64))))))) (.cons (.int .i64) (.one (.int .i64)))))
noncomputable def q46_cx : Cx := ⟨tyT, [c46, e48, c101, c102, e103, c159, e160, e161], gsT, eqT, false⟩
noncomputable def q46_0_body : Code := subC [1, 0, 0] (bodyOf Tryz.f159)
abbrev cron_Read_l0_Z : Type := Int × Int × Int × Int × Int × Int × Int × ByteArray × Int
abbrev cron_Read_l0_Y : Type := (Int × Int × Int × Int × Int × Int × Int) ⊕ ((Int × Int × Int × Int × Int × Int × Int × Int) ⊕ (Int × Int × Int × Int × Int × Int × Int))
noncomputable def q46_0_k : LK := ⟨9, ⟨[(0, .yld 8), (1, .ptr 6 0), (3, .w 8)], [.cells [.li .u64 0, .li .u64 0, .li .u64 0, .li .u64 0, .li .u64 0], .cells [.w 0, .w 1, .w 2, .w 3, .w 4], .cells [.ptr 1 0, .ptr 1 1, .ptr 1 2, .ptr 1 3, .ptr 1 4], .cells [.w 5], .cells [.w 6], .cells [.li .i64 (-1)], .cells [.w 7], .dfr, .loop .ready none 46 [23, 24] w8 w9 [(5, .ptr 1 0), (6, .ptr 2 0), (7, .ptr 3 0), (8, .ptr 4 0), (9, .ptr 5 0)] 7], []⟩, [.int .u64, .int .u64, .int .u64, .int .u64, .int .u64, .int .i64, .int .i64, .str, .int .i64], [], [], [7], [⟨.ret, ⟨[], [.cells [.li .u64 0, .li .u64 0, .li .u64 0, .li .u64 0, .li .u64 0], .cells [.w 0, .w 1, .w 2, .w 3, .w 4], .cells [.ptr 1 0, .ptr 1 1, .ptr 1 2, .ptr 1 3, .ptr 1 4], .cells [.w 5], .cells [.w 6], .cells [.li .i64 (-1)], .cells [.e (.p 0)], .dfr, .loop .ready none 46 [23, 24] w8 w9 [(5, .ptr 1 0), (6, .ptr 2 0), (7, .ptr 3 0), (8, .ptr 4 0), (9, .ptr 5 0)] 7], []⟩, [.int .u64, .int .u64, .int .u64, .int .u64, .int .u64, .int .i64, .int .i64], [], some [0]⟩, ⟨.ret, ⟨[], [.cells [.li .u64 0, .li .u64 0, .li .u64 0, .li .u64 0, .li .u64 0], .cells [.w 0, .w 1, .w 2, .w 3, .w 4], .cells [.ptr 1 0, .ptr 1 1, .ptr 1 2, .ptr 1 3, .ptr 1 4], .cells [.w 5], .cells [.w 6], .cells [.w 7], .cells [.e (.p 0)], .dfr, .loop .done (some (.exit 0)) 46 [23, 24] w8 w9 [(5, .ptr 1 0), (6, .ptr 2 0), (7, .ptr 3 0), (8, .ptr 4 0), (9, .ptr 5 0)] 7], []⟩, [.int .u64, .int .u64, .int .u64, .int .u64, .int .u64, .int .i64, .int .i64, .int .i64], [], some [4]⟩, ⟨(.exit 0), ⟨[], [.cells [.li .u64 0, .li .u64 0, .li .u64 0, .li .u64 0, .li .u64 0], .cells [.w 0, .w 1, .w 2, .w 3, .w 4], .cells [.ptr 1 0, .ptr 1 1, .ptr 1 2, .ptr 1 3, .ptr 1 4], .cells [.w 5], .cells [.w 6], .cells [.li .i64 (-1)], .cells [.e (.p 0)], .dfr, .loop .ready none 46 [23, 24] w8 w9 [(5, .ptr 1 0), (6, .ptr 2 0), (7, .ptr 3 0), (8, .ptr 4 0), (9, .ptr 5 0)] 7], []⟩, [.int .u64, .int .u64, .int .u64, .int .u64, .int .u64, .int .i64, .int .i64], [], none⟩]⟩
def cron_Read_l0_j0 (l : cron_Read_l0_Z → cron_Read_l0_Y → Prop) (p0 : Int) (p1 : ByteArray × ByteArray × Bool) (p2 : ByteArray) (p3 p4 p5 p6 p7 : Int) (p8 : ByteArray) (p9 : Int) (y2_ : cron_Read_l0_Y) : Prop :=
  (∃ y6 : Int × Int × Int, (field_Read_R p0 (p1.1) y6) ∧ (req ((decide (0 ≤ p0)) && (decide (p0 < 5))) (br ((((offN 0 p0 1) : Nat) : Int) == 0) (br (!((y6.2.2) == 0)) (br (!((y6.2.2) == 0)) ((Sum.inr (Sum.inl ((y6.1), p3, p4, p5, p6, p0, p7, (IntKind.wrap .i64 ((IntKind.wrap .i64 (((ByteArray.size p2 : Nat) : Int) - ((ByteArray.size p8 : Nat) : Int))) + (y6.2.1)))))) = y2_) (l ((y6.1), p3, p4, p5, p6, (IntKind.wrap .i64 (p0 + 1)), p7, p2, (IntKind.wrap .i64 ((IntKind.wrap .i64 (((ByteArray.size p2 : Nat) : Int) - ((ByteArray.size p8 : Nat) : Int))) + ((ByteArray.size (p1.1) : Nat) : Int)))) y2_)) (br (!((y6.2.2) == 0)) ((Sum.inr (Sum.inl ((y6.1), p3, p4, p5, p6, p0, p7, (IntKind.wrap .i64 (((ByteArray.size p2 : Nat) : Int) - ((ByteArray.size p8 : Nat) : Int)))))) = y2_) (l ((y6.1), p3, p4, p5, p6, (IntKind.wrap .i64 (p0 + 1)), p7, p2, (IntKind.wrap .i64 ((IntKind.wrap .i64 (((ByteArray.size p2 : Nat) : Int) - ((ByteArray.size p8 : Nat) : Int))) + ((ByteArray.size (p1.1) : Nat) : Int)))) y2_))) (br ((((offN 0 p0 1) : Nat) : Int) == 1) (br (!((y6.2.2) == 0)) (br (!((y6.2.2) == 0)) ((Sum.inr (Sum.inl (p9, (y6.1), p4, p5, p6, p0, p7, (IntKind.wrap .i64 ((IntKind.wrap .i64 (((ByteArray.size p2 : Nat) : Int) - ((ByteArray.size p8 : Nat) : Int))) + (y6.2.1)))))) = y2_) (l (p9, (y6.1), p4, p5, p6, (IntKind.wrap .i64 (p0 + 1)), p7, p2, (IntKind.wrap .i64 ((IntKind.wrap .i64 (((ByteArray.size p2 : Nat) : Int) - ((ByteArray.size p8 : Nat) : Int))) + ((ByteArray.size (p1.1) : Nat) : Int)))) y2_)) (br (!((y6.2.2) == 0)) ((Sum.inr (Sum.inl (p9, (y6.1), p4, p5, p6, p0, p7, (IntKind.wrap .i64 (((ByteArray.size p2 : Nat) : Int) - ((ByteArray.size p8 : Nat) : Int)))))) = y2_) (l (p9, (y6.1), p4, p5, p6, (IntKind.wrap .i64 (p0 + 1)), p7, p2, (IntKind.wrap .i64 ((IntKind.wrap .i64 (((ByteArray.size p2 : Nat) : Int) - ((ByteArray.size p8 : Nat) : Int))) + ((ByteArray.size (p1.1) : Nat) : Int)))) y2_))) (br ((((offN 0 p0 1) : Nat) : Int) == 2) (br (!((y6.2.2) == 0)) (br (!((y6.2.2) == 0)) ((Sum.inr (Sum.inl (p9, p3, (y6.1), p5, p6, p0, p7, (IntKind.wrap .i64 ((IntKind.wrap .i64 (((ByteArray.size p2 : Nat) : Int) - ((ByteArray.size p8 : Nat) : Int))) + (y6.2.1)))))) = y2_) (l (p9, p3, (y6.1), p5, p6, (IntKind.wrap .i64 (p0 + 1)), p7, p2, (IntKind.wrap .i64 ((IntKind.wrap .i64 (((ByteArray.size p2 : Nat) : Int) - ((ByteArray.size p8 : Nat) : Int))) + ((ByteArray.size (p1.1) : Nat) : Int)))) y2_)) (br (!((y6.2.2) == 0)) ((Sum.inr (Sum.inl (p9, p3, (y6.1), p5, p6, p0, p7, (IntKind.wrap .i64 (((ByteArray.size p2 : Nat) : Int) - ((ByteArray.size p8 : Nat) : Int)))))) = y2_) (l (p9, p3, (y6.1), p5, p6, (IntKind.wrap .i64 (p0 + 1)), p7, p2, (IntKind.wrap .i64 ((IntKind.wrap .i64 (((ByteArray.size p2 : Nat) : Int) - ((ByteArray.size p8 : Nat) : Int))) + ((ByteArray.size (p1.1) : Nat) : Int)))) y2_))) (br ((((offN 0 p0 1) : Nat) : Int) == 3) (br (!((y6.2.2) == 0)) (br (!((y6.2.2) == 0)) ((Sum.inr (Sum.inl (p9, p3, p4, (y6.1), p6, p0, p7, (IntKind.wrap .i64 ((IntKind.wrap .i64 (((ByteArray.size p2 : Nat) : Int) - ((ByteArray.size p8 : Nat) : Int))) + (y6.2.1)))))) = y2_) (l (p9, p3, p4, (y6.1), p6, (IntKind.wrap .i64 (p0 + 1)), p7, p2, (IntKind.wrap .i64 ((IntKind.wrap .i64 (((ByteArray.size p2 : Nat) : Int) - ((ByteArray.size p8 : Nat) : Int))) + ((ByteArray.size (p1.1) : Nat) : Int)))) y2_)) (br (!((y6.2.2) == 0)) ((Sum.inr (Sum.inl (p9, p3, p4, (y6.1), p6, p0, p7, (IntKind.wrap .i64 (((ByteArray.size p2 : Nat) : Int) - ((ByteArray.size p8 : Nat) : Int)))))) = y2_) (l (p9, p3, p4, (y6.1), p6, (IntKind.wrap .i64 (p0 + 1)), p7, p2, (IntKind.wrap .i64 ((IntKind.wrap .i64 (((ByteArray.size p2 : Nat) : Int) - ((ByteArray.size p8 : Nat) : Int))) + ((ByteArray.size (p1.1) : Nat) : Int)))) y2_))) (br ((((offN 0 p0 1) : Nat) : Int) == 4) (br (!((y6.2.2) == 0)) (br (!((y6.2.2) == 0)) ((Sum.inr (Sum.inl (p9, p3, p4, p5, (y6.1), p0, p7, (IntKind.wrap .i64 ((IntKind.wrap .i64 (((ByteArray.size p2 : Nat) : Int) - ((ByteArray.size p8 : Nat) : Int))) + (y6.2.1)))))) = y2_) (l (p9, p3, p4, p5, (y6.1), (IntKind.wrap .i64 (p0 + 1)), p7, p2, (IntKind.wrap .i64 ((IntKind.wrap .i64 (((ByteArray.size p2 : Nat) : Int) - ((ByteArray.size p8 : Nat) : Int))) + ((ByteArray.size (p1.1) : Nat) : Int)))) y2_)) (br (!((y6.2.2) == 0)) ((Sum.inr (Sum.inl (p9, p3, p4, p5, (y6.1), p0, p7, (IntKind.wrap .i64 (((ByteArray.size p2 : Nat) : Int) - ((ByteArray.size p8 : Nat) : Int)))))) = y2_) (l (p9, p3, p4, p5, (y6.1), (IntKind.wrap .i64 (p0 + 1)), p7, p2, (IntKind.wrap .i64 ((IntKind.wrap .i64 (((ByteArray.size p2 : Nat) : Int) - ((ByteArray.size p8 : Nat) : Int))) + ((ByteArray.size (p1.1) : Nat) : Int)))) y2_))) False)))))))
def cron_Read_l0_j0F (i : Ip) (l : cron_Read_l0_Z → cron_Read_l0_Y → Prop) (p0 : Int) (p1 : ByteArray × ByteArray × Bool) (p2 : ByteArray) (p3 p4 p5 p6 p7 : Int) (p8 : ByteArray) (p9 : Int) (y2_ : cron_Read_l0_Y) : Prop :=
  (∃ y6 : Int × Int × Int, (field_Read_R p0 (p1.1) y6) ∧ (i.rq ((decide (0 ≤ p0)) && (decide (p0 < 5))) (br ((((offN 0 p0 1) : Nat) : Int) == 0) (br (!((y6.2.2) == 0)) (br (!((y6.2.2) == 0)) (i.te [(V.str p2)] [(((some (.exit 0)) : Option Code), (subC [1, 0, 1, 1, 1, 1, 0, 1, 0, 0] (bodyOf Tryz.f46)), (subC [1, 0, 1, 1, 1, 1, 0, 1, 0, 1] (bodyOf Tryz.f46)))] ((Sum.inr (Sum.inl ((y6.1), p3, p4, p5, p6, p0, p7, (IntKind.wrap .i64 ((IntKind.wrap .i64 (((ByteArray.size p2 : Nat) : Int) - ((ByteArray.size p8 : Nat) : Int))) + (y6.2.1)))))) = y2_)) (i.tk [((none : Option Code), (subC [1, 0, 1, 1, 1, 1, 0, 1, 0, 0] (bodyOf Tryz.f46)), (subC [1, 0, 1, 1, 1, 1, 0, 1, 0, 1] (bodyOf Tryz.f46)))] (i.tq [(V.str p2)] (l ((y6.1), p3, p4, p5, p6, (IntKind.wrap .i64 (p0 + 1)), p7, p2, (IntKind.wrap .i64 ((IntKind.wrap .i64 (((ByteArray.size p2 : Nat) : Int) - ((ByteArray.size p8 : Nat) : Int))) + ((ByteArray.size (p1.1) : Nat) : Int)))) y2_)))) (br (!((y6.2.2) == 0)) (i.te [(V.str p2)] [(((some (.exit 0)) : Option Code), (subC [1, 0, 1, 1, 1, 1, 0, 1, 0, 0] (bodyOf Tryz.f46)), (subC [1, 0, 1, 1, 1, 1, 0, 1, 0, 1] (bodyOf Tryz.f46)))] ((Sum.inr (Sum.inl ((y6.1), p3, p4, p5, p6, p0, p7, (IntKind.wrap .i64 (((ByteArray.size p2 : Nat) : Int) - ((ByteArray.size p8 : Nat) : Int)))))) = y2_)) (i.tk [((none : Option Code), (subC [1, 0, 1, 1, 1, 1, 0, 1, 0, 0] (bodyOf Tryz.f46)), (subC [1, 0, 1, 1, 1, 1, 0, 1, 0, 1] (bodyOf Tryz.f46)))] (i.tq [(V.str p2)] (l ((y6.1), p3, p4, p5, p6, (IntKind.wrap .i64 (p0 + 1)), p7, p2, (IntKind.wrap .i64 ((IntKind.wrap .i64 (((ByteArray.size p2 : Nat) : Int) - ((ByteArray.size p8 : Nat) : Int))) + ((ByteArray.size (p1.1) : Nat) : Int)))) y2_))))) (br ((((offN 0 p0 1) : Nat) : Int) == 1) (br (!((y6.2.2) == 0)) (br (!((y6.2.2) == 0)) (i.te [(V.str p2)] [(((some (.exit 0)) : Option Code), (subC [1, 0, 1, 1, 1, 1, 0, 1, 0, 0] (bodyOf Tryz.f46)), (subC [1, 0, 1, 1, 1, 1, 0, 1, 0, 1] (bodyOf Tryz.f46)))] ((Sum.inr (Sum.inl (p9, (y6.1), p4, p5, p6, p0, p7, (IntKind.wrap .i64 ((IntKind.wrap .i64 (((ByteArray.size p2 : Nat) : Int) - ((ByteArray.size p8 : Nat) : Int))) + (y6.2.1)))))) = y2_)) (i.tk [((none : Option Code), (subC [1, 0, 1, 1, 1, 1, 0, 1, 0, 0] (bodyOf Tryz.f46)), (subC [1, 0, 1, 1, 1, 1, 0, 1, 0, 1] (bodyOf Tryz.f46)))] (i.tq [(V.str p2)] (l (p9, (y6.1), p4, p5, p6, (IntKind.wrap .i64 (p0 + 1)), p7, p2, (IntKind.wrap .i64 ((IntKind.wrap .i64 (((ByteArray.size p2 : Nat) : Int) - ((ByteArray.size p8 : Nat) : Int))) + ((ByteArray.size (p1.1) : Nat) : Int)))) y2_)))) (br (!((y6.2.2) == 0)) (i.te [(V.str p2)] [(((some (.exit 0)) : Option Code), (subC [1, 0, 1, 1, 1, 1, 0, 1, 0, 0] (bodyOf Tryz.f46)), (subC [1, 0, 1, 1, 1, 1, 0, 1, 0, 1] (bodyOf Tryz.f46)))] ((Sum.inr (Sum.inl (p9, (y6.1), p4, p5, p6, p0, p7, (IntKind.wrap .i64 (((ByteArray.size p2 : Nat) : Int) - ((ByteArray.size p8 : Nat) : Int)))))) = y2_)) (i.tk [((none : Option Code), (subC [1, 0, 1, 1, 1, 1, 0, 1, 0, 0] (bodyOf Tryz.f46)), (subC [1, 0, 1, 1, 1, 1, 0, 1, 0, 1] (bodyOf Tryz.f46)))] (i.tq [(V.str p2)] (l (p9, (y6.1), p4, p5, p6, (IntKind.wrap .i64 (p0 + 1)), p7, p2, (IntKind.wrap .i64 ((IntKind.wrap .i64 (((ByteArray.size p2 : Nat) : Int) - ((ByteArray.size p8 : Nat) : Int))) + ((ByteArray.size (p1.1) : Nat) : Int)))) y2_))))) (br ((((offN 0 p0 1) : Nat) : Int) == 2) (br (!((y6.2.2) == 0)) (br (!((y6.2.2) == 0)) (i.te [(V.str p2)] [(((some (.exit 0)) : Option Code), (subC [1, 0, 1, 1, 1, 1, 0, 1, 0, 0] (bodyOf Tryz.f46)), (subC [1, 0, 1, 1, 1, 1, 0, 1, 0, 1] (bodyOf Tryz.f46)))] ((Sum.inr (Sum.inl (p9, p3, (y6.1), p5, p6, p0, p7, (IntKind.wrap .i64 ((IntKind.wrap .i64 (((ByteArray.size p2 : Nat) : Int) - ((ByteArray.size p8 : Nat) : Int))) + (y6.2.1)))))) = y2_)) (i.tk [((none : Option Code), (subC [1, 0, 1, 1, 1, 1, 0, 1, 0, 0] (bodyOf Tryz.f46)), (subC [1, 0, 1, 1, 1, 1, 0, 1, 0, 1] (bodyOf Tryz.f46)))] (i.tq [(V.str p2)] (l (p9, p3, (y6.1), p5, p6, (IntKind.wrap .i64 (p0 + 1)), p7, p2, (IntKind.wrap .i64 ((IntKind.wrap .i64 (((ByteArray.size p2 : Nat) : Int) - ((ByteArray.size p8 : Nat) : Int))) + ((ByteArray.size (p1.1) : Nat) : Int)))) y2_)))) (br (!((y6.2.2) == 0)) (i.te [(V.str p2)] [(((some (.exit 0)) : Option Code), (subC [1, 0, 1, 1, 1, 1, 0, 1, 0, 0] (bodyOf Tryz.f46)), (subC [1, 0, 1, 1, 1, 1, 0, 1, 0, 1] (bodyOf Tryz.f46)))] ((Sum.inr (Sum.inl (p9, p3, (y6.1), p5, p6, p0, p7, (IntKind.wrap .i64 (((ByteArray.size p2 : Nat) : Int) - ((ByteArray.size p8 : Nat) : Int)))))) = y2_)) (i.tk [((none : Option Code), (subC [1, 0, 1, 1, 1, 1, 0, 1, 0, 0] (bodyOf Tryz.f46)), (subC [1, 0, 1, 1, 1, 1, 0, 1, 0, 1] (bodyOf Tryz.f46)))] (i.tq [(V.str p2)] (l (p9, p3, (y6.1), p5, p6, (IntKind.wrap .i64 (p0 + 1)), p7, p2, (IntKind.wrap .i64 ((IntKind.wrap .i64 (((ByteArray.size p2 : Nat) : Int) - ((ByteArray.size p8 : Nat) : Int))) + ((ByteArray.size (p1.1) : Nat) : Int)))) y2_))))) (br ((((offN 0 p0 1) : Nat) : Int) == 3) (br (!((y6.2.2) == 0)) (br (!((y6.2.2) == 0)) (i.te [(V.str p2)] [(((some (.exit 0)) : Option Code), (subC [1, 0, 1, 1, 1, 1, 0, 1, 0, 0] (bodyOf Tryz.f46)), (subC [1, 0, 1, 1, 1, 1, 0, 1, 0, 1] (bodyOf Tryz.f46)))] ((Sum.inr (Sum.inl (p9, p3, p4, (y6.1), p6, p0, p7, (IntKind.wrap .i64 ((IntKind.wrap .i64 (((ByteArray.size p2 : Nat) : Int) - ((ByteArray.size p8 : Nat) : Int))) + (y6.2.1)))))) = y2_)) (i.tk [((none : Option Code), (subC [1, 0, 1, 1, 1, 1, 0, 1, 0, 0] (bodyOf Tryz.f46)), (subC [1, 0, 1, 1, 1, 1, 0, 1, 0, 1] (bodyOf Tryz.f46)))] (i.tq [(V.str p2)] (l (p9, p3, p4, (y6.1), p6, (IntKind.wrap .i64 (p0 + 1)), p7, p2, (IntKind.wrap .i64 ((IntKind.wrap .i64 (((ByteArray.size p2 : Nat) : Int) - ((ByteArray.size p8 : Nat) : Int))) + ((ByteArray.size (p1.1) : Nat) : Int)))) y2_)))) (br (!((y6.2.2) == 0)) (i.te [(V.str p2)] [(((some (.exit 0)) : Option Code), (subC [1, 0, 1, 1, 1, 1, 0, 1, 0, 0] (bodyOf Tryz.f46)), (subC [1, 0, 1, 1, 1, 1, 0, 1, 0, 1] (bodyOf Tryz.f46)))] ((Sum.inr (Sum.inl (p9, p3, p4, (y6.1), p6, p0, p7, (IntKind.wrap .i64 (((ByteArray.size p2 : Nat) : Int) - ((ByteArray.size p8 : Nat) : Int)))))) = y2_)) (i.tk [((none : Option Code), (subC [1, 0, 1, 1, 1, 1, 0, 1, 0, 0] (bodyOf Tryz.f46)), (subC [1, 0, 1, 1, 1, 1, 0, 1, 0, 1] (bodyOf Tryz.f46)))] (i.tq [(V.str p2)] (l (p9, p3, p4, (y6.1), p6, (IntKind.wrap .i64 (p0 + 1)), p7, p2, (IntKind.wrap .i64 ((IntKind.wrap .i64 (((ByteArray.size p2 : Nat) : Int) - ((ByteArray.size p8 : Nat) : Int))) + ((ByteArray.size (p1.1) : Nat) : Int)))) y2_))))) (br ((((offN 0 p0 1) : Nat) : Int) == 4) (br (!((y6.2.2) == 0)) (br (!((y6.2.2) == 0)) (i.te [(V.str p2)] [(((some (.exit 0)) : Option Code), (subC [1, 0, 1, 1, 1, 1, 0, 1, 0, 0] (bodyOf Tryz.f46)), (subC [1, 0, 1, 1, 1, 1, 0, 1, 0, 1] (bodyOf Tryz.f46)))] ((Sum.inr (Sum.inl (p9, p3, p4, p5, (y6.1), p0, p7, (IntKind.wrap .i64 ((IntKind.wrap .i64 (((ByteArray.size p2 : Nat) : Int) - ((ByteArray.size p8 : Nat) : Int))) + (y6.2.1)))))) = y2_)) (i.tk [((none : Option Code), (subC [1, 0, 1, 1, 1, 1, 0, 1, 0, 0] (bodyOf Tryz.f46)), (subC [1, 0, 1, 1, 1, 1, 0, 1, 0, 1] (bodyOf Tryz.f46)))] (i.tq [(V.str p2)] (l (p9, p3, p4, p5, (y6.1), (IntKind.wrap .i64 (p0 + 1)), p7, p2, (IntKind.wrap .i64 ((IntKind.wrap .i64 (((ByteArray.size p2 : Nat) : Int) - ((ByteArray.size p8 : Nat) : Int))) + ((ByteArray.size (p1.1) : Nat) : Int)))) y2_)))) (br (!((y6.2.2) == 0)) (i.te [(V.str p2)] [(((some (.exit 0)) : Option Code), (subC [1, 0, 1, 1, 1, 1, 0, 1, 0, 0] (bodyOf Tryz.f46)), (subC [1, 0, 1, 1, 1, 1, 0, 1, 0, 1] (bodyOf Tryz.f46)))] ((Sum.inr (Sum.inl (p9, p3, p4, p5, (y6.1), p0, p7, (IntKind.wrap .i64 (((ByteArray.size p2 : Nat) : Int) - ((ByteArray.size p8 : Nat) : Int)))))) = y2_)) (i.tk [((none : Option Code), (subC [1, 0, 1, 1, 1, 1, 0, 1, 0, 0] (bodyOf Tryz.f46)), (subC [1, 0, 1, 1, 1, 1, 0, 1, 0, 1] (bodyOf Tryz.f46)))] (i.tq [(V.str p2)] (l (p9, p3, p4, p5, (y6.1), (IntKind.wrap .i64 (p0 + 1)), p7, p2, (IntKind.wrap .i64 ((IntKind.wrap .i64 (((ByteArray.size p2 : Nat) : Int) - ((ByteArray.size p8 : Nat) : Int))) + ((ByteArray.size (p1.1) : Nat) : Int)))) y2_))))) False)))))))
theorem cron_Read_l0_j0_r (l : cron_Read_l0_Z → cron_Read_l0_Y → Prop) (p0 : Int) (p1 : ByteArray × ByteArray × Bool) (p2 : ByteArray) (p3 p4 p5 p6 p7 : Int) (p8 : ByteArray) (p9 : Int) (y2_ : cron_Read_l0_Y) : MI (cron_Read_l0_j0 l p0 p1 p2 p3 p4 p5 p6 p7 p8 p9 y2_) (cron_Read_l0_j0F ipT l p0 p1 p2 p3 p4 p5 p6 p7 p8 p9 y2_) := by
  unfold cron_Read_l0_j0 cron_Read_l0_j0F
  repeat' (first | intro _ | with_reducible constructor)
def cron_Read_l0_F (i : Ip) (l : cron_Read_l0_Z → cron_Read_l0_Y → Prop) (z1x0 z1x1 z1x2 z1x3 z1x4 z1x5 z1x6 : Int) (z1x7 : ByteArray) (z1x8 : Int) (y2_ : cron_Read_l0_Y) : Prop :=
  (br (decide (z1x8 < ((ByteArray.size z1x7 : Nat) : Int))) (i.r2 ((decide (0 ≤ z1x8)) && (Nat.ble (Int.toNat z1x8) (ByteArray.size z1x7))) ((true && (Nat.ble (ByteArray.size z1x7) (ByteArray.size z1x7))) && ((decide (0 ≤ z1x8)) && (Nat.ble (Int.toNat z1x8) (ByteArray.size z1x7)))) (fun q => (band (band rfl (ble_same _)) (band (band_l q) (band_r q)))) (∃ y3 : ByteArray, (strings_TrimLeft_R (ByteArray.extract z1x7 (Int.toNat z1x8) (ByteArray.size z1x7)) (⟨#[32]⟩ : ByteArray) y3) ∧ (∃ y4 : ByteArray × ByteArray × Bool, (strings_Cut_R y3 (⟨#[32]⟩ : ByteArray) y4) ∧ (br (ByteArray.toList (y4.1) == ByteArray.toList (⟨#[]⟩ : ByteArray)) (i.te [(V.str z1x7)] [((none : Option Code), (subC [1, 0, 1, 1, 1, 1, 0, 1, 0, 0] (bodyOf Tryz.f46)), (subC [1, 0, 1, 1, 1, 1, 0, 1, 0, 1] (bodyOf Tryz.f46)))] ((Sum.inl (z1x0, z1x1, z1x2, z1x3, z1x4, z1x5, z1x6)) = y2_)) (br (!(decide (z1x5 < z1x6))) (br (!(decide (z1x5 < z1x6))) (i.te [(V.str z1x7)] [(((some (.exit 0)) : Option Code), (subC [1, 0, 1, 1, 1, 1, 0, 1, 0, 0] (bodyOf Tryz.f46)), (subC [1, 0, 1, 1, 1, 1, 0, 1, 0, 1] (bodyOf Tryz.f46)))] ((Sum.inr (Sum.inl (z1x0, z1x1, z1x2, z1x3, z1x4, z1x5, z1x6, (IntKind.wrap .i64 (((ByteArray.size z1x7 : Nat) : Int) - ((ByteArray.size y3 : Nat) : Int)))))) = y2_)) (i.tk [((none : Option Code), (subC [1, 0, 1, 1, 1, 1, 0, 1, 0, 0] (bodyOf Tryz.f46)), (subC [1, 0, 1, 1, 1, 1, 0, 1, 0, 1] (bodyOf Tryz.f46)))] (i.tq [(V.str z1x7)] (l (z1x0, z1x1, z1x2, z1x3, z1x4, (IntKind.wrap .i64 (z1x5 + 1)), z1x6, z1x7, (IntKind.wrap .i64 ((IntKind.wrap .i64 (((ByteArray.size z1x7 : Nat) : Int) - ((ByteArray.size y3 : Nat) : Int))) + ((ByteArray.size (y4.1) : Nat) : Int)))) y2_)))) (br (z1x5 == 0) (i.r2 (decide (0 < ((ByteArray.size (y4.1) : Nat) : Int))) (true && (decide (0 < ((ByteArray.size (y4.1) : Nat) : Int)))) (fun q => (band rfl q)) (br ((((List.getD (Array.toList (ByteArray.data (y4.1))) 0 0).toNat : Nat) : Int) == 64) (∃ y5 : (Int × Int × Int × Int × Int) × Bool, (cron_Macro_R (y4.1) y5) ∧ (br (!(y5.2)) (i.te [(V.str z1x7)] [(((some (.exit 0)) : Option Code), (subC [1, 0, 1, 1, 1, 1, 0, 1, 0, 0] (bodyOf Tryz.f46)), (subC [1, 0, 1, 1, 1, 1, 0, 1, 0, 1] (bodyOf Tryz.f46)))] ((Sum.inr (Sum.inl ((y5.1.1), (y5.1.2.1), (y5.1.2.2.1), (y5.1.2.2.2.1), (y5.1.2.2.2.2), z1x5, 1, (IntKind.wrap .i64 (((ByteArray.size z1x7 : Nat) : Int) - ((ByteArray.size y3 : Nat) : Int)))))) = y2_)) (i.tk [((none : Option Code), (subC [1, 0, 1, 1, 1, 1, 0, 1, 0, 0] (bodyOf Tryz.f46)), (subC [1, 0, 1, 1, 1, 1, 0, 1, 0, 1] (bodyOf Tryz.f46)))] (i.tq [(V.str z1x7)] (l ((y5.1.1), (y5.1.2.1), (y5.1.2.2.1), (y5.1.2.2.2.1), (y5.1.2.2.2.2), (IntKind.wrap .i64 (z1x5 + 1)), 1, z1x7, (IntKind.wrap .i64 ((IntKind.wrap .i64 (((ByteArray.size z1x7 : Nat) : Int) - ((ByteArray.size y3 : Nat) : Int))) + ((ByteArray.size (y4.1) : Nat) : Int)))) y2_))))) (cron_Read_l0_j0F i l z1x5 y4 z1x7 z1x1 z1x2 z1x3 z1x4 z1x6 y3 z1x0 y2_))) (cron_Read_l0_j0F i l z1x5 y4 z1x7 z1x1 z1x2 z1x3 z1x4 z1x6 y3 z1x0 y2_))))))) (i.te [(V.str z1x7)] [((none : Option Code), (subC [1, 0, 1, 1, 1, 1, 0, 1, 0, 0] (bodyOf Tryz.f46)), (subC [1, 0, 1, 1, 1, 1, 0, 1, 0, 1] (bodyOf Tryz.f46)))] ((Sum.inr (Sum.inr (z1x0, z1x1, z1x2, z1x3, z1x4, z1x5, z1x6))) = y2_)))
def cron_Read_l0 : Nat → cron_Read_l0_Z → cron_Read_l0_Y → Prop
  | 0, _, _ => False
  | k + 1, (z1x0, z1x1, z1x2, z1x3, z1x4, z1x5, z1x6, z1x7, z1x8), y2_ => (br (decide (z1x8 < ((ByteArray.size z1x7 : Nat) : Int))) (req ((decide (0 ≤ z1x8)) && (Nat.ble (Int.toNat z1x8) (ByteArray.size z1x7))) (∃ y3 : ByteArray, (strings_TrimLeft_R (ByteArray.extract z1x7 (Int.toNat z1x8) (ByteArray.size z1x7)) (⟨#[32]⟩ : ByteArray) y3) ∧ (∃ y4 : ByteArray × ByteArray × Bool, (strings_Cut_R y3 (⟨#[32]⟩ : ByteArray) y4) ∧ (br (ByteArray.toList (y4.1) == ByteArray.toList (⟨#[]⟩ : ByteArray)) ((Sum.inl (z1x0, z1x1, z1x2, z1x3, z1x4, z1x5, z1x6)) = y2_) (br (!(decide (z1x5 < z1x6))) (br (!(decide (z1x5 < z1x6))) ((Sum.inr (Sum.inl (z1x0, z1x1, z1x2, z1x3, z1x4, z1x5, z1x6, (IntKind.wrap .i64 (((ByteArray.size z1x7 : Nat) : Int) - ((ByteArray.size y3 : Nat) : Int)))))) = y2_) (cron_Read_l0 k (z1x0, z1x1, z1x2, z1x3, z1x4, (IntKind.wrap .i64 (z1x5 + 1)), z1x6, z1x7, (IntKind.wrap .i64 ((IntKind.wrap .i64 (((ByteArray.size z1x7 : Nat) : Int) - ((ByteArray.size y3 : Nat) : Int))) + ((ByteArray.size (y4.1) : Nat) : Int)))) y2_)) (br (z1x5 == 0) (req (decide (0 < ((ByteArray.size (y4.1) : Nat) : Int))) (br ((((List.getD (Array.toList (ByteArray.data (y4.1))) 0 0).toNat : Nat) : Int) == 64) (∃ y5 : (Int × Int × Int × Int × Int) × Bool, (cron_Macro_R (y4.1) y5) ∧ (br (!(y5.2)) ((Sum.inr (Sum.inl ((y5.1.1), (y5.1.2.1), (y5.1.2.2.1), (y5.1.2.2.2.1), (y5.1.2.2.2.2), z1x5, 1, (IntKind.wrap .i64 (((ByteArray.size z1x7 : Nat) : Int) - ((ByteArray.size y3 : Nat) : Int)))))) = y2_) (cron_Read_l0 k ((y5.1.1), (y5.1.2.1), (y5.1.2.2.1), (y5.1.2.2.2.1), (y5.1.2.2.2.2), (IntKind.wrap .i64 (z1x5 + 1)), 1, z1x7, (IntKind.wrap .i64 ((IntKind.wrap .i64 (((ByteArray.size z1x7 : Nat) : Int) - ((ByteArray.size y3 : Nat) : Int))) + ((ByteArray.size (y4.1) : Nat) : Int)))) y2_))) (cron_Read_l0_j0 (cron_Read_l0 k) z1x5 y4 z1x7 z1x1 z1x2 z1x3 z1x4 z1x6 y3 z1x0 y2_))) (cron_Read_l0_j0 (cron_Read_l0 k) z1x5 y4 z1x7 z1x1 z1x2 z1x3 z1x4 z1x6 y3 z1x0 y2_))))))) ((Sum.inr (Sum.inr (z1x0, z1x1, z1x2, z1x3, z1x4, z1x5, z1x6))) = y2_))
def cron_Read_l0_L (z : cron_Read_l0_Z) (y : cron_Read_l0_Y) : Prop := ∃ k, cron_Read_l0 k z y
noncomputable def q46_0_lp : Lp := .auto none q46_0_body (loopK q46_0_k fun z y => ∃ k, cron_Read_l0 k z y)
noncomputable def q46_lp : Nat → FuncId → Nat → Nat → Lp := lpTab [(159, 1, 9, 2, q46_0_lp)]
theorem q46_0_t (n k : Nat) (z1x0 z1x1 z1x2 z1x3 z1x4 z1x5 z1x6 : Int) (z1x7 : ByteArray) (z1x8 : Int) (y2_ : cron_Read_l0_Y) : rnd q46_cx okT q46_lp (n + 2) 159 none q46_0_body q46_0_k (cron_Read_l0 k) (z1x0, z1x1, z1x2, z1x3, z1x4, z1x5, z1x6, z1x7, z1x8) () () y2_ = cron_Read_l0_F ipT (fun z y => cron_Read_l0 k z y) z1x0 z1x1 z1x2 z1x3 z1x4 z1x5 z1x6 z1x7 z1x8 y2_ := by kernel_rfl
theorem q46_0_r (k : Nat) (z1x0 z1x1 z1x2 z1x3 z1x4 z1x5 z1x6 : Int) (z1x7 : ByteArray) (z1x8 : Int) (y2_ : cron_Read_l0_Y) : cron_Read_l0 (k + 1) (z1x0, z1x1, z1x2, z1x3, z1x4, z1x5, z1x6, z1x7, z1x8) y2_ → cron_Read_l0_F ipT (fun z y => cron_Read_l0 k z y) z1x0 z1x1 z1x2 z1x3 z1x4 z1x5 z1x6 z1x7 z1x8 y2_ := by
  unfold cron_Read_l0_F
  intro h; simp only [cron_Read_l0] at h; revert h
  refine MI.run ?_
  repeat' (first | intro _ | exact cron_Read_l0_j0_r _ _ _ _ _ _ _ _ _ _ _ _ | with_reducible constructor)
theorem q46_0_ok (n : Nat) : Owed q46_cx okT 159 q46_lp (n + 2) q46_0_lp := owed_rnd (lk := q46_0_k) (l := cron_Read_l0) (fun z y h => h) fun k z q c y h => Eq.mpr (q46_0_t n k z.1 z.2.1 z.2.2.1 z.2.2.2.1 z.2.2.2.2.1 z.2.2.2.2.2.1 z.2.2.2.2.2.2.1 z.2.2.2.2.2.2.2.1 z.2.2.2.2.2.2.2.2 y) (q46_0_r k z.1 z.2.1 z.2.2.1 z.2.2.2.1 z.2.2.2.2.1 z.2.2.2.2.2.1 z.2.2.2.2.2.2.1 z.2.2.2.2.2.2.2.1 z.2.2.2.2.2.2.2.2 y h)
def cron_Read_j0 (p0 p1 : Int) (p2 : ByteArray) (p3 p4 p5 p6 p7 : Int) (y : (Int × Int × Int × Int × Int) × Int × Int) : Prop :=
  (br (decide (p0 < p1)) (br (decide (((ByteArray.size p2 : Nat) : Int) ≥ 0)) (((0, (0, (0, (0, 0)))), (((ByteArray.size p2 : Nat) : Int), 170)) = y) (((p3, (p4, (p5, (p6, p7)))), (0, 0)) = y)) (((p3, (p4, (p5, (p6, p7)))), (0, 0)) = y))
def cron_Read_j0F (i : Ip) (p0 p1 : Int) (p2 : ByteArray) (p3 p4 p5 p6 p7 : Int) (y : (Int × Int × Int × Int × Int) × Int × Int) : Prop :=
  (br (decide (p0 < p1)) (br (decide (((ByteArray.size p2 : Nat) : Int) ≥ 0)) (i.an 1 (((0, (0, (0, (0, 0)))), (((ByteArray.size p2 : Nat) : Int), 170)) = y)) (((p3, (p4, (p5, (p6, p7)))), (0, 0)) = y)) (((p3, (p4, (p5, (p6, p7)))), (0, 0)) = y))
theorem cron_Read_j0_r (p0 p1 : Int) (p2 : ByteArray) (p3 p4 p5 p6 p7 : Int) (y : (Int × Int × Int × Int × Int) × Int × Int) : MI (cron_Read_j0 p0 p1 p2 p3 p4 p5 p6 p7 y) (cron_Read_j0F ipT p0 p1 p2 p3 p4 p5 p6 p7 y) := by
  unfold cron_Read_j0 cron_Read_j0F
  repeat' (first | intro _ | with_reducible constructor)
def cron_Read_F (i : Ip) (a0 : ByteArray) (y : (Int × Int × Int × Int × Int) × Int × Int) : Prop :=
  (br (decide (((ByteArray.size a0 : Nat) : Int) > 256)) (((0, (0, (0, (0, 0)))), (0, 3)) = y) (i.lo none q46_0_body (i.tk [((none : Option Code), (subC [1, 0, 1, 1, 1, 1, 0, 1, 0, 0] (bodyOf Tryz.f46)), (subC [1, 0, 1, 1, 1, 1, 0, 1, 0, 1] (bodyOf Tryz.f46)))] (∃ y9 : cron_Read_l0_Y, cron_Read_l0_L (0, 0, 0, 0, 0, 0, 5, a0, 0) y9 ∧ sume (fun y9 => (cron_Read_j0F i (y9.2.2.2.2.2.1) (y9.2.2.2.2.2.2) a0 (y9.1) (y9.2.1) (y9.2.2.1) (y9.2.2.2.1) (y9.2.2.2.2.1) y)) (fun y9 => sume (fun y9 => (br (decide ((y9.2.2.2.2.2.2.2) < 0)) (br (decide ((y9.2.2.2.2.2.1) < (y9.2.2.2.2.2.2.1))) (br (decide (((ByteArray.size a0 : Nat) : Int) ≥ 0)) (i.an 1 (((0, (0, (0, (0, 0)))), (((ByteArray.size a0 : Nat) : Int), 170)) = y)) ((((y9.1), ((y9.2.1), ((y9.2.2.1), ((y9.2.2.2.1), (y9.2.2.2.2.1))))), (0, 0)) = y)) (br (decide ((y9.2.2.2.2.2.2.2) ≥ 0)) (i.an 1 (((0, (0, (0, (0, 0)))), ((y9.2.2.2.2.2.2.2), 170)) = y)) ((((y9.1), ((y9.2.1), ((y9.2.2.1), ((y9.2.2.2.1), (y9.2.2.2.2.1))))), (0, 0)) = y))) (br (decide ((y9.2.2.2.2.2.2.2) ≥ 0)) (i.an 1 (((0, (0, (0, (0, 0)))), ((y9.2.2.2.2.2.2.2), 170)) = y)) ((((y9.1), ((y9.2.1), ((y9.2.2.1), ((y9.2.2.2.1), (y9.2.2.2.2.1))))), (0, 0)) = y)))) (fun y9 => (cron_Read_j0F i (y9.2.2.2.2.2.1) (y9.2.2.2.2.2.2) a0 (y9.1) (y9.2.1) (y9.2.2.1) (y9.2.2.2.1) (y9.2.2.2.2.1) y)) y9) y9))))
def cron_Read_R (a0 : ByteArray) (y : (Int × Int × Int × Int × Int) × Int × Int) : Prop :=
  (br (decide (((ByteArray.size a0 : Nat) : Int) > 256)) (((0, (0, (0, (0, 0)))), (0, 3)) = y) (∃ y9 : cron_Read_l0_Y, cron_Read_l0_L (0, 0, 0, 0, 0, 0, 5, a0, 0) y9 ∧ sume (fun y9 => (cron_Read_j0 (y9.2.2.2.2.2.1) (y9.2.2.2.2.2.2) a0 (y9.1) (y9.2.1) (y9.2.2.1) (y9.2.2.2.1) (y9.2.2.2.2.1) y)) (fun y9 => sume (fun y9 => (br (decide ((y9.2.2.2.2.2.2.2) < 0)) (br (decide ((y9.2.2.2.2.2.1) < (y9.2.2.2.2.2.2.1))) (br (decide (((ByteArray.size a0 : Nat) : Int) ≥ 0)) (((0, (0, (0, (0, 0)))), (((ByteArray.size a0 : Nat) : Int), 170)) = y) ((((y9.1), ((y9.2.1), ((y9.2.2.1), ((y9.2.2.2.1), (y9.2.2.2.2.1))))), (0, 0)) = y)) (br (decide ((y9.2.2.2.2.2.2.2) ≥ 0)) (((0, (0, (0, (0, 0)))), ((y9.2.2.2.2.2.2.2), 170)) = y) ((((y9.1), ((y9.2.1), ((y9.2.2.1), ((y9.2.2.2.1), (y9.2.2.2.2.1))))), (0, 0)) = y))) (br (decide ((y9.2.2.2.2.2.2.2) ≥ 0)) (((0, (0, (0, (0, 0)))), ((y9.2.2.2.2.2.2.2), 170)) = y) ((((y9.1), ((y9.2.1), ((y9.2.2.1), ((y9.2.2.2.1), (y9.2.2.2.2.1))))), (0, 0)) = y)))) (fun y9 => (cron_Read_j0 (y9.2.2.2.2.2.1) (y9.2.2.2.2.2.2) a0 (y9.1) (y9.2.1) (y9.2.2.1) (y9.2.2.2.1) (y9.2.2.2.2.1) y)) y9) y9))
theorem q46_t (a0 : ByteArray) (y : (Int × Int × Int × Int × Int) × Int × Int) : acall q46_cx okT q46_lp 60 (.fn 46 [] []) [(V.str a0)] [] (leafK B46 y) = cron_Read_F ipT a0 y := by kernel_rfl
theorem q46_r (a0 : ByteArray) (y : (Int × Int × Int × Int × Int) × Int × Int) : cron_Read_R a0 y → cron_Read_F ipT a0 y := by
  unfold cron_Read_R cron_Read_F
  refine MI.run ?_
  repeat' (first | intro _ | exact cron_Read_j0_r _ _ _ _ _ _ _ _ _ | with_reducible constructor)
abbrev r46 (x : A46.den) (y : B46.den) : Prop := cron_Read_R x y
theorem cron_Read_ok : FxOk Tryz.prog gsT 46 A46 B46 r46 := fo (c := q46_cx) rfl rfl (Fns_assoc ⟨b46, cron_Macro_ok, b101, b102, field_Read_ok, b159, strings_TrimLeft_ok, strings_Cut_ok rfl, trivial⟩) (lp := q46_lp) (n := 60) (LpOk_tab ⟨q46_0_ok, trivial⟩) (enters Tryz.func46 (by kernel_rfl) rfl) (fun y => ⟨_, rfl⟩) fun x y h => Eq.mpr (q46_t _ y) (q46_r _ y h)
def e46 : Nat × Ent := (46, .fx A46 B46 r46)
noncomputable def c17 : Nat × Ent := (17, .body Tryz.f17)
theorem b17 {c : Cx} : EntOk Tryz.prog c 17 (.body Tryz.f17) := body_ent Tryz.func17 (by kernel_rfl) (by kernel_rfl)
abbrev A17 : RT := (.one (.agg (.cons (.int .u32) (.cons .str (.cons (.int .i64) (.cons (.int .i64) (.cons (.int .i64) (.one (.int .i64)))))))))
abbrev B17 : RT := (.tup (.cons (.agg (.cons (.int .u32) (.cons .bool (.cons (.int .u64) (.cons (.int .u64) (.cons (.int .u64) (.cons (.int .u64) (.cons (.int .u64) (.cons (.int .i64) (.cons (.int .i64) (.cons (.int .i64) (.one (.int .i64))))))))))))) (.one (.int .i64))))
noncomputable def q17_cx : Cx := ⟨tyT, [c17, e28, e46], gsT, eqT, false⟩
def job_Of_j0 (p0 : ByteArray) (p1 p2 p3 p4 p5 : Int) (y : (Int × Bool × Int × Int × Int × Int × Int × Int × Int × Int × Int) × Int) : Prop :=
  (br (ByteArray.toList p0 == ByteArray.toList (⟨#[]⟩ : ByteArray)) (((p1, (true, (0, (0, (0, (0, (0, (p2, (p3, (p4, p5)))))))))), 0) = y) (∃ y2 : (Int × Int × Int × Int × Int) × Int × Int, (cron_Read_R p0 y2) ∧ (br ((y2.2.2) != 0) (((0, (false, (0, (0, (0, (0, (0, (0, (0, (0, 0)))))))))), (y2.2.2)) = y) (∃ y3 : Int, (job_Check_R p1 false (y2.1.1) (y2.1.2.1) (y2.1.2.2.1) (y2.1.2.2.2.1) (y2.1.2.2.2.2) p2 p3 p4 p5 y3) ∧ (br (y3 != 0) (((0, (false, (0, (0, (0, (0, (0, (0, (0, (0, 0)))))))))), y3) = y) (((p1, (false, ((y2.1.1), ((y2.1.2.1), ((y2.1.2.2.1), ((y2.1.2.2.2.1), ((y2.1.2.2.2.2), (p2, (p3, (p4, p5)))))))))), 0) = y))))))
def job_Of_j0F (i : Ip) (p0 : ByteArray) (p1 p2 p3 p4 p5 : Int) (y : (Int × Bool × Int × Int × Int × Int × Int × Int × Int × Int × Int) × Int) : Prop :=
  (br (ByteArray.toList p0 == ByteArray.toList (⟨#[]⟩ : ByteArray)) (((p1, (true, (0, (0, (0, (0, (0, (p2, (p3, (p4, p5)))))))))), 0) = y) (∃ y2 : (Int × Int × Int × Int × Int) × Int × Int, (cron_Read_R p0 y2) ∧ (br ((y2.2.2) != 0) (((0, (false, (0, (0, (0, (0, (0, (0, (0, (0, 0)))))))))), (y2.2.2)) = y) (i.an 1 (∃ y3 : Int, (job_Check_R p1 false (y2.1.1) (y2.1.2.1) (y2.1.2.2.1) (y2.1.2.2.2.1) (y2.1.2.2.2.2) p2 p3 p4 p5 y3) ∧ (br (y3 != 0) (((0, (false, (0, (0, (0, (0, (0, (0, (0, (0, 0)))))))))), y3) = y) (((p1, (false, ((y2.1.1), ((y2.1.2.1), ((y2.1.2.2.1), ((y2.1.2.2.2.1), ((y2.1.2.2.2.2), (p2, (p3, (p4, p5)))))))))), 0) = y)))))))
theorem job_Of_j0_r (p0 : ByteArray) (p1 p2 p3 p4 p5 : Int) (y : (Int × Bool × Int × Int × Int × Int × Int × Int × Int × Int × Int) × Int) : MI (job_Of_j0 p0 p1 p2 p3 p4 p5 y) (job_Of_j0F ipT p0 p1 p2 p3 p4 p5 y) := by
  unfold job_Of_j0 job_Of_j0F
  repeat' (first | intro _ | with_reducible constructor)
def job_Of_F (i : Ip) (a0 : Int) (a1 : ByteArray) (a2 a3 a4 a5 : Int) (y : (Int × Bool × Int × Int × Int × Int × Int × Int × Int × Int × Int) × Int) : Prop :=
  (∃ y1 : Int, (job_Check_R a0 true 0 0 0 0 0 a2 a3 a4 a5 y1) ∧ (br (y1 != 0) (((0, (false, (0, (0, (0, (0, (0, (0, (0, (0, 0)))))))))), 200) = y) (br (!(ByteArray.toList a1 == ByteArray.toList (⟨#[]⟩ : ByteArray))) (br (a2 != 0) (((0, (false, (0, (0, (0, (0, (0, (0, (0, (0, 0)))))))))), 200) = y) (job_Of_j0F i a1 a0 a2 a3 a4 a5 y)) (job_Of_j0F i a1 a0 a2 a3 a4 a5 y))))
def job_Of_R (a0 : Int) (a1 : ByteArray) (a2 a3 a4 a5 : Int) (y : (Int × Bool × Int × Int × Int × Int × Int × Int × Int × Int × Int) × Int) : Prop :=
  (∃ y1 : Int, (job_Check_R a0 true 0 0 0 0 0 a2 a3 a4 a5 y1) ∧ (br (y1 != 0) (((0, (false, (0, (0, (0, (0, (0, (0, (0, (0, 0)))))))))), 200) = y) (br (!(ByteArray.toList a1 == ByteArray.toList (⟨#[]⟩ : ByteArray))) (br (a2 != 0) (((0, (false, (0, (0, (0, (0, (0, (0, (0, (0, 0)))))))))), 200) = y) (job_Of_j0 a1 a0 a2 a3 a4 a5 y)) (job_Of_j0 a1 a0 a2 a3 a4 a5 y))))
theorem q17_t (a0 : Int) (a1 : ByteArray) (a2 a3 a4 a5 : Int) (y : (Int × Bool × Int × Int × Int × Int × Int × Int × Int × Int × Int) × Int) : acall q17_cx okT lpT 60 (.fn 17 [] []) [(V.agg [(V.int .u32 a0), (V.str a1), (vi a2), (vi a3), (vi a4), (vi a5)])] [] (leafK B17 y) = job_Of_F ipT a0 a1 a2 a3 a4 a5 y := by kernel_rfl
theorem q17_r (a0 : Int) (a1 : ByteArray) (a2 a3 a4 a5 : Int) (y : (Int × Bool × Int × Int × Int × Int × Int × Int × Int × Int × Int) × Int) : job_Of_R a0 a1 a2 a3 a4 a5 y → job_Of_F ipT a0 a1 a2 a3 a4 a5 y := by
  unfold job_Of_R job_Of_F
  refine MI.run ?_
  repeat' (first | intro _ | exact job_Of_j0_r _ _ _ _ _ _ _ | with_reducible constructor)
abbrev r17 (x : A17.den) (y : B17.den) : Prop := job_Of_R (x.1) (x.2.1) (x.2.2.1) (x.2.2.2.1) (x.2.2.2.2.1) (x.2.2.2.2.2) y
theorem job_Of_ok : FxOk Tryz.prog gsT 17 A17 B17 r17 := fo (c := q17_cx) rfl rfl (Fns_assoc ⟨b17, job_Check_ok, cron_Read_ok, trivial⟩) (n := 60) (lp_ok) (enters Tryz.func17 (by kernel_rfl) rfl) (fun y => ⟨_, rfl⟩) fun x y h => Eq.mpr (q17_t _ _ _ _ _ _ y) (q17_r _ _ _ _ _ _ y h)
def e17 : Nat × Ent := (17, .fx A17 B17 r17)
noncomputable def c193 : Nat × Ent := (193, .body Tryz.f193)
theorem b193 {c : Cx} : EntOk Tryz.prog c 193 (.body Tryz.f193) := body_ent Tryz.func193 (by kernel_rfl) (by kernel_rfl)
noncomputable def c238 : Nat × Ent := (238, .body Tryz.f238)
theorem b238 {c : Cx} : EntOk Tryz.prog c 238 (.body Tryz.f238) := body_ent Tryz.func238 (by kernel_rfl) (by kernel_rfl)
abbrev A193 : RT := (.cons (.agg (.cons (.int .u64) (.cons (.int .u64) (.cons (.int .u64) (.cons (.int .u64) (.one (.int .u64))))))) (.one (.int .i64)))
abbrev B193 : RT := (.tup (.cons (.int .i64) (.one .bool)))
noncomputable def q193_cx : Cx := ⟨tyT, [e51, e54, c71, e72, e124, c140, c141, c193, c194, c195, c196, c238, c239, e240], gsT, eqT, false⟩
noncomputable def q193_0_body : Code := subC [1, 1, 0, 0] (bodyOf Tryz.f239)
abbrev next_Last_l0_Z : Type := List Int × List Int × Int × Int × Int × Int × Int × Int × Int × Int × Int × Int
abbrev next_Last_l0_Y : Type := (Int) ⊕ (Unit)
noncomputable def q193_0_k : LK := ⟨23, ⟨[(0, .yld 21), (2, .ptr 20 0), (4, .row 22 1 (.z 1) (.q 1)), (9, .w 10), (10, .w 11)], [.cells [.w 2, .w 3, .w 4, .w 5, .w 6], .cells [.w 7], .cells [.e (.z 2), .e (.z 3), .e (.z 4), .e (.z 5), .e (.z 6)], .cells [.fn 238 [] [.ptr 1 0]], .cells [.li .i64 0], .cells [.lb false], .cells [.e (.z 2), .e (.z 3), .e (.z 4), .e (.z 5), .e (.z 6)], .cells [.e (.z 2), .e (.z 3), .e (.z 4), .e (.z 5), .e (.z 6)], .cells [.w 8], .cells [.lb true], .dfr, .loop .ready none 71 [37] w2 w3 [(7, .ptr 3 0), (8, .ptr 4 0), (9, .ptr 5 0)] 10, .cells [.yld 11], .cells [.e (.z 3)], .cells [.lb true], .dfr, .loop .busy none 195 [11] w4 w5 [(1, .ptr 7 0), (2, .ptr 9 0), (3, .ptr 8 0), (4, .ptr 12 0)] 15, .row (.int .i64) (.z 0) 3 (.q 0), .cells [.w 9], .cells [.e (.z 2)], .cells [.lb true], .loop .ready none 195 [16] w6 w7 [(3, .ptr 8 0), (4, .ptr 12 0), (5, .ptr 18 0)] 15, .row (.int .i64) (.z 1) 3 (.q 1)], []⟩, [.sl (.int .i64), .sl (.int .i64), .int .u64, .int .u64, .int .u64, .int .u64, .int .u64, .int .i64, .int .i64, .int .i64, .int .i64, .int .i64], [.nat, .nat], [], [0, 2, 3, 4, 5, 6, 7, 8, 9], [⟨.ret, ⟨[], [.cells [.e (.p 1), .e (.p 2), .e (.p 3), .e (.p 4), .e (.p 5)], .cells [.e (.p 6)], .cells [.e (.p 1), .e (.p 2), .e (.p 3), .e (.p 4), .e (.p 5)], .cells [.fn 238 [] [.ptr 1 0]], .cells [.w 0], .cells [.lb true], .cells [.e (.p 1), .e (.p 2), .e (.p 3), .e (.p 4), .e (.p 5)], .cells [.e (.p 1), .e (.p 2), .e (.p 3), .e (.p 4), .e (.p 5)], .cells [.e (.p 7)], .cells [.lb true], .dfr, .loop .done (some (.exit 0)) 71 [37] w2 w3 [(7, .ptr 3 0), (8, .ptr 4 0), (9, .ptr 5 0)] 10, .cells [.yld 11], .cells [.e (.p 2)], .cells [.lb true], .dfr, .loop .busy none 195 [11] w4 w5 [(1, .ptr 7 0), (2, .ptr 9 0), (3, .ptr 8 0), (4, .ptr 12 0)] 15, .row (.int .i64) (.p 0) 3 (.p 9), .cells [.e (.p 8)], .cells [.e (.p 1)], .cells [.lb true], .loop .done (some .ret) 195 [16] w6 w7 [(3, .ptr 8 0), (4, .ptr 12 0), (5, .ptr 18 0)] 15, .dead], []⟩, [.int .i64], [], none⟩, ⟨(.exit 0), ⟨[], [.cells [.e (.p 1), .e (.p 2), .e (.p 3), .e (.p 4), .e (.p 5)], .cells [.e (.p 6)], .cells [.e (.p 1), .e (.p 2), .e (.p 3), .e (.p 4), .e (.p 5)], .cells [.fn 238 [] [.ptr 1 0]], .cells [.li .i64 0], .cells [.lb false], .cells [.e (.p 1), .e (.p 2), .e (.p 3), .e (.p 4), .e (.p 5)], .cells [.e (.p 1), .e (.p 2), .e (.p 3), .e (.p 4), .e (.p 5)], .cells [.e (.p 7)], .cells [.lb true], .dfr, .loop .ready none 71 [37] w2 w3 [(7, .ptr 3 0), (8, .ptr 4 0), (9, .ptr 5 0)] 10, .cells [.yld 11], .cells [.e (.p 2)], .cells [.lb true], .dfr, .loop .busy none 195 [11] w4 w5 [(1, .ptr 7 0), (2, .ptr 9 0), (3, .ptr 8 0), (4, .ptr 12 0)] 15, .row (.int .i64) (.p 0) 3 (.p 9), .cells [.e (.p 8)], .cells [.e (.p 1)], .cells [.lb true], .loop .ready none 195 [16] w6 w7 [(3, .ptr 8 0), (4, .ptr 12 0), (5, .ptr 18 0)] 15, .dead], []⟩, [], [], none⟩]⟩
def next_Last_l0_F (i : Ip) (l : next_Last_l0_Z → next_Last_l0_Y → Prop) (z13x0 z13x1 : List Int) (z13x2 z13x3 z13x4 z13x5 z13x6 z13x7 z13x8 z13x9 z13x10 z13x11 : Int) (z13q0 z13q1 : Nat) (y14_ : next_Last_l0_Y) : Prop :=
  (br (decide (z13x11 < z13x10)) (i.rq ((decide (0 ≤ (IntKind.wrap .i64 ((IntKind.wrap .i64 ((((List.length z13x1) : Nat) : Int) - 1)) - z13x11)))) && (decide ((IntKind.wrap .i64 ((IntKind.wrap .i64 ((((List.length z13x1) : Nat) : Int) - 1)) - z13x11)) < (((List.length z13x1) : Nat) : Int)))) (i.rq (Nat.blt (Int.toNat (IntKind.wrap .i64 ((IntKind.wrap .i64 ((((List.length z13x1) : Nat) : Int) - 1)) - z13x11))) (List.length z13x1)) (br (decide ((IntKind.wrap .i64 ((IntKind.wrap .i64 ((IntKind.wrap .i64 (z13x8 * 86400)) + (IntKind.wrap .i64 (z13x9 * 3600)))) + (IntKind.wrap .i64 ((List.getD z13x1 (Int.toNat (IntKind.wrap .i64 ((IntKind.wrap .i64 ((((List.length z13x1) : Nat) : Int) - 1)) - z13x11))) 0) * 60)))) ≤ z13x7)) (i.te [(V.sl (.int .i64) z13x0 none), (V.yld z13q0), (vu z13x2), (vu z13x3), (vu z13x4), (vu z13x5), (vu z13x6), (vi z13x7), (vu z13x2), (vu z13x3), (vu z13x4), (vu z13x5), (vu z13x6), (vu z13x2), (vu z13x3), (vu z13x4), (vu z13x5), (vu z13x6), (vu z13x2), (vu z13x3), (vu z13x4), (vu z13x5), (vu z13x6), (vi z13x8), (vu z13x3), (vi z13x9), (vu z13x2)] [(((some (.exit 0)) : Option Code), (subC [1, 0, 1, 1, 1, 0, 1, 0, 0, 1, 1, 0, 0, 1, 1, 1, 1, 1, 0, 0] (bodyOf Tryz.f71)), (subC [1, 0, 1, 1, 1, 0, 1, 0, 0, 1, 1, 0, 0, 1, 1, 1, 1, 1, 0, 1] (bodyOf Tryz.f71))), ((none : Option Code), (subC [1, 1, 0, 0] (bodyOf Tryz.f195)), (subC [1, 1, 0, 1] (bodyOf Tryz.f195))), (((some .ret) : Option Code), (subC [1, 1, 0, 1, 0, 1, 0, 0] (bodyOf Tryz.f195)), (subC [1, 1, 0, 1, 0, 1, 0, 1] (bodyOf Tryz.f195)))] ((Sum.inl (IntKind.wrap .i64 ((IntKind.wrap .i64 ((IntKind.wrap .i64 (z13x8 * 86400)) + (IntKind.wrap .i64 (z13x9 * 3600)))) + (IntKind.wrap .i64 ((List.getD z13x1 (Int.toNat (IntKind.wrap .i64 ((IntKind.wrap .i64 ((((List.length z13x1) : Nat) : Int) - 1)) - z13x11))) 0) * 60))))) = y14_)) (i.te [(vu z13x2), (vu z13x3), (vu z13x4), (vu z13x5), (vu z13x6), (vu z13x2), (vu z13x3), (vu z13x4), (vu z13x5), (vu z13x6), (vu z13x2), (vu z13x3), (vu z13x4), (vu z13x5), (vu z13x6), (vu z13x3), (vu z13x2), (V.row 22 1 (List.length z13x1) z13q1)] [((none : Option Code), (subC [1, 0, 1, 1, 1, 0, 1, 0, 0, 1, 1, 0, 0, 1, 1, 1, 1, 1, 0, 0] (bodyOf Tryz.f71)), (subC [1, 0, 1, 1, 1, 0, 1, 0, 0, 1, 1, 0, 0, 1, 1, 1, 1, 1, 0, 1] (bodyOf Tryz.f71))), ((none : Option Code), (subC [1, 1, 0, 0] (bodyOf Tryz.f195)), (subC [1, 1, 0, 1] (bodyOf Tryz.f195))), ((none : Option Code), (subC [1, 1, 0, 1, 0, 1, 0, 0] (bodyOf Tryz.f195)), (subC [1, 1, 0, 1, 0, 1, 0, 1] (bodyOf Tryz.f195)))] (i.tq [(V.sl (.int .i64) z13x0 none), (vu z13x2), (vu z13x3), (vu z13x4), (vu z13x5), (vu z13x6), (vi z13x7), (vi z13x8), (vi z13x9), (V.yld z13q0), (V.yld z13q1)] (l (z13x0, z13x1, z13x2, z13x3, z13x4, z13x5, z13x6, z13x7, z13x8, z13x9, z13x10, (IntKind.wrap .i64 (z13x11 + 1))) y14_)))))) (i.te [(V.sl (.int .i64) z13x0 none), (V.yld z13q0), (vu z13x2), (vu z13x3), (vu z13x4), (vu z13x5), (vu z13x6), (vi z13x7), (vu z13x2), (vu z13x3), (vu z13x4), (vu z13x5), (vu z13x6), (vu z13x2), (vu z13x3), (vu z13x4), (vu z13x5), (vu z13x6), (vu z13x2), (vu z13x3), (vu z13x4), (vu z13x5), (vu z13x6), (vi z13x8), (vu z13x3), (vi z13x9), (vu z13x2)] [((none : Option Code), (subC [1, 0, 1, 1, 1, 0, 1, 0, 0, 1, 1, 0, 0, 1, 1, 1, 1, 1, 0, 0] (bodyOf Tryz.f71)), (subC [1, 0, 1, 1, 1, 0, 1, 0, 0, 1, 1, 0, 0, 1, 1, 1, 1, 1, 0, 1] (bodyOf Tryz.f71))), ((none : Option Code), (subC [1, 1, 0, 0] (bodyOf Tryz.f195)), (subC [1, 1, 0, 1] (bodyOf Tryz.f195))), ((none : Option Code), (subC [1, 1, 0, 1, 0, 1, 0, 0] (bodyOf Tryz.f195)), (subC [1, 1, 0, 1, 0, 1, 0, 1] (bodyOf Tryz.f195)))] ((Sum.inr ()) = y14_)))
def next_Last_l0 : Nat → next_Last_l0_Z → next_Last_l0_Y → Prop
  | 0, _, _ => False
  | k + 1, (z13x0, z13x1, z13x2, z13x3, z13x4, z13x5, z13x6, z13x7, z13x8, z13x9, z13x10, z13x11), y14_ => (br (decide (z13x11 < z13x10)) (req ((decide (0 ≤ (IntKind.wrap .i64 ((IntKind.wrap .i64 ((((List.length z13x1) : Nat) : Int) - 1)) - z13x11)))) && (decide ((IntKind.wrap .i64 ((IntKind.wrap .i64 ((((List.length z13x1) : Nat) : Int) - 1)) - z13x11)) < (((List.length z13x1) : Nat) : Int)))) (req (Nat.blt (Int.toNat (IntKind.wrap .i64 ((IntKind.wrap .i64 ((((List.length z13x1) : Nat) : Int) - 1)) - z13x11))) (List.length z13x1)) (br (decide ((IntKind.wrap .i64 ((IntKind.wrap .i64 ((IntKind.wrap .i64 (z13x8 * 86400)) + (IntKind.wrap .i64 (z13x9 * 3600)))) + (IntKind.wrap .i64 ((List.getD z13x1 (Int.toNat (IntKind.wrap .i64 ((IntKind.wrap .i64 ((((List.length z13x1) : Nat) : Int) - 1)) - z13x11))) 0) * 60)))) ≤ z13x7)) ((Sum.inl (IntKind.wrap .i64 ((IntKind.wrap .i64 ((IntKind.wrap .i64 (z13x8 * 86400)) + (IntKind.wrap .i64 (z13x9 * 3600)))) + (IntKind.wrap .i64 ((List.getD z13x1 (Int.toNat (IntKind.wrap .i64 ((IntKind.wrap .i64 ((((List.length z13x1) : Nat) : Int) - 1)) - z13x11))) 0) * 60))))) = y14_) (next_Last_l0 k (z13x0, z13x1, z13x2, z13x3, z13x4, z13x5, z13x6, z13x7, z13x8, z13x9, z13x10, (IntKind.wrap .i64 (z13x11 + 1))) y14_)))) ((Sum.inr ()) = y14_))
def next_Last_l0_L (z : next_Last_l0_Z) (y : next_Last_l0_Y) : Prop := ∃ k, next_Last_l0 k z y
noncomputable def q193_0_lp : Lp := .auto none q193_0_body (loopK q193_0_k fun z y => ∃ k, next_Last_l0 k z y)
noncomputable def q193_1_body : Code := subC [1, 1, 0, 0] (bodyOf Tryz.f239)
abbrev next_Last_l1_Z : Type := List Int × Int × Int × Int × Int × Int × Int × Int × Int × Int
abbrev next_Last_l1_Y : Type := (Int) ⊕ (Unit)
noncomputable def q193_1_k : LK := ⟨18, ⟨[(0, .yld 16), (2, .ptr 14 0), (4, .row 17 1 (.z 0) (.q 0)), (9, .w 8), (10, .w 9)], [.cells [.w 1, .w 2, .w 3, .w 4, .w 5], .cells [.w 6], .cells [.e (.z 1), .e (.z 2), .e (.z 3), .e (.z 4), .e (.z 5)], .cells [.fn 238 [] [.ptr 1 0]], .cells [.li .i64 0], .cells [.lb false], .cells [.e (.z 1), .e (.z 2), .e (.z 3), .e (.z 4), .e (.z 5)], .cells [.e (.z 1), .e (.z 2), .e (.z 3), .e (.z 4), .e (.z 5)], .cells [.w 7], .cells [.lb true], .dfr, .loop .ready none 71 [37] w2 w3 [(7, .ptr 3 0), (8, .ptr 4 0), (9, .ptr 5 0)] 10, .cells [.yld 11], .cells [.e (.z 2)], .cells [.lb true], .dfr, .loop .ready none 195 [11] w4 w5 [(1, .ptr 7 0), (2, .ptr 9 0), (3, .ptr 8 0), (4, .ptr 12 0)] 15, .row (.int .i64) (.z 0) 3 (.q 0)], []⟩, [.sl (.int .i64), .int .u64, .int .u64, .int .u64, .int .u64, .int .u64, .int .i64, .int .i64, .int .i64, .int .i64], [.nat], [], [1, 2, 3, 4, 5, 6, 7], [⟨.ret, ⟨[], [.cells [.e (.p 0), .e (.p 1), .e (.p 2), .e (.p 3), .e (.p 4)], .cells [.e (.p 5)], .cells [.e (.p 0), .e (.p 1), .e (.p 2), .e (.p 3), .e (.p 4)], .cells [.fn 238 [] [.ptr 1 0]], .cells [.w 0], .cells [.lb true], .cells [.e (.p 0), .e (.p 1), .e (.p 2), .e (.p 3), .e (.p 4)], .cells [.e (.p 0), .e (.p 1), .e (.p 2), .e (.p 3), .e (.p 4)], .cells [.e (.p 6)], .cells [.lb true], .dfr, .loop .done (some (.exit 0)) 71 [37] w2 w3 [(7, .ptr 3 0), (8, .ptr 4 0), (9, .ptr 5 0)] 10, .cells [.yld 11], .cells [.e (.p 1)], .cells [.lb true], .dfr, .loop .done (some .ret) 195 [11] w4 w5 [(1, .ptr 7 0), (2, .ptr 9 0), (3, .ptr 8 0), (4, .ptr 12 0)] 15, .dead], []⟩, [.int .i64], [], none⟩, ⟨(.exit 0), ⟨[], [.cells [.e (.p 0), .e (.p 1), .e (.p 2), .e (.p 3), .e (.p 4)], .cells [.e (.p 5)], .cells [.e (.p 0), .e (.p 1), .e (.p 2), .e (.p 3), .e (.p 4)], .cells [.fn 238 [] [.ptr 1 0]], .cells [.li .i64 0], .cells [.lb false], .cells [.e (.p 0), .e (.p 1), .e (.p 2), .e (.p 3), .e (.p 4)], .cells [.e (.p 0), .e (.p 1), .e (.p 2), .e (.p 3), .e (.p 4)], .cells [.e (.p 6)], .cells [.lb true], .dfr, .loop .ready none 71 [37] w2 w3 [(7, .ptr 3 0), (8, .ptr 4 0), (9, .ptr 5 0)] 10, .cells [.yld 11], .cells [.e (.p 1)], .cells [.lb true], .dfr, .loop .ready none 195 [11] w4 w5 [(1, .ptr 7 0), (2, .ptr 9 0), (3, .ptr 8 0), (4, .ptr 12 0)] 15, .dead], []⟩, [], [], none⟩]⟩
def next_Last_l1_F (i : Ip) (l : next_Last_l1_Z → next_Last_l1_Y → Prop) (z9x0 : List Int) (z9x1 z9x2 z9x3 z9x4 z9x5 z9x6 z9x7 z9x8 z9x9 : Int) (z9q0 : Nat) (y10_ : next_Last_l1_Y) : Prop :=
  (br (decide (z9x9 < z9x8)) (i.rq ((decide (0 ≤ (IntKind.wrap .i64 ((IntKind.wrap .i64 ((((List.length z9x0) : Nat) : Int) - 1)) - z9x9)))) && (decide ((IntKind.wrap .i64 ((IntKind.wrap .i64 ((((List.length z9x0) : Nat) : Int) - 1)) - z9x9)) < (((List.length z9x0) : Nat) : Int)))) (i.rq (Nat.blt (Int.toNat (IntKind.wrap .i64 ((IntKind.wrap .i64 ((((List.length z9x0) : Nat) : Int) - 1)) - z9x9))) (List.length z9x0)) (∃ y11 : List Int, (mask_All_R z9x1 y11) ∧ (i.cp (List.length y11) fun c12 hc12 => (i.lo none q193_0_body (i.te [(vu z9x1), (vu z9x2), (vu z9x3), (vu z9x4), (vu z9x5), (vu z9x1), (vu z9x2), (vu z9x3), (vu z9x4), (vu z9x5), (vu z9x1), (vu z9x2), (vu z9x3), (vu z9x4), (vu z9x5), (vu z9x2), (vu z9x1), (V.row 22 1 (List.length y11) c12)] [((none : Option Code), (subC [1, 0, 1, 1, 1, 0, 1, 0, 0, 1, 1, 0, 0, 1, 1, 1, 1, 1, 0, 0] (bodyOf Tryz.f71)), (subC [1, 0, 1, 1, 1, 0, 1, 0, 0, 1, 1, 0, 0, 1, 1, 1, 1, 1, 0, 1] (bodyOf Tryz.f71))), ((none : Option Code), (subC [1, 1, 0, 0] (bodyOf Tryz.f195)), (subC [1, 1, 0, 1] (bodyOf Tryz.f195))), ((none : Option Code), (subC [1, 1, 0, 1, 0, 1, 0, 0] (bodyOf Tryz.f195)), (subC [1, 1, 0, 1, 0, 1, 0, 1] (bodyOf Tryz.f195)))] (∃ y16 : next_Last_l0_Y, next_Last_l0_L (z9x0, y11, z9x1, z9x2, z9x3, z9x4, z9x5, z9x6, z9x7, (List.getD z9x0 (Int.toNat (IntKind.wrap .i64 ((IntKind.wrap .i64 ((((List.length z9x0) : Nat) : Int) - 1)) - z9x9))) 0), (((List.length y11) : Nat) : Int), 0) y16 ∧ sume (fun y16 => (i.te [(vu z9x1), (vu z9x2), (vu z9x3), (vu z9x4), (vu z9x5), (vi z9x6), (vu z9x1), (vu z9x2), (vu z9x3), (vu z9x4), (vu z9x5), (vu z9x1), (vu z9x2), (vu z9x3), (vu z9x4), (vu z9x5), (vu z9x1), (vu z9x2), (vu z9x3), (vu z9x4), (vu z9x5), (vi z9x7), (vu z9x2)] [(((some (.exit 0)) : Option Code), (subC [1, 0, 1, 1, 1, 0, 1, 0, 0, 1, 1, 0, 0, 1, 1, 1, 1, 1, 0, 0] (bodyOf Tryz.f71)), (subC [1, 0, 1, 1, 1, 0, 1, 0, 0, 1, 1, 0, 0, 1, 1, 1, 1, 1, 0, 1] (bodyOf Tryz.f71))), (((some .ret) : Option Code), (subC [1, 1, 0, 0] (bodyOf Tryz.f195)), (subC [1, 1, 0, 1] (bodyOf Tryz.f195)))] ((Sum.inl y16) = y10_))) (fun y16 => (i.te [(vu z9x1), (vu z9x2), (vu z9x3), (vu z9x4), (vu z9x5), (vu z9x1), (vu z9x2), (vu z9x3), (vu z9x4), (vu z9x5), (vu z9x1), (vu z9x2), (vu z9x3), (vu z9x4), (vu z9x5), (vu z9x2), (V.row 17 1 (List.length z9x0) z9q0)] [((none : Option Code), (subC [1, 0, 1, 1, 1, 0, 1, 0, 0, 1, 1, 0, 0, 1, 1, 1, 1, 1, 0, 0] (bodyOf Tryz.f71)), (subC [1, 0, 1, 1, 1, 0, 1, 0, 0, 1, 1, 0, 0, 1, 1, 1, 1, 1, 0, 1] (bodyOf Tryz.f71))), ((none : Option Code), (subC [1, 1, 0, 0] (bodyOf Tryz.f195)), (subC [1, 1, 0, 1] (bodyOf Tryz.f195)))] (i.tq [(vu z9x1), (vu z9x2), (vu z9x3), (vu z9x4), (vu z9x5), (vi z9x6), (vi z9x7), (V.yld z9q0)] (l (z9x0, z9x1, z9x2, z9x3, z9x4, z9x5, z9x6, z9x7, z9x8, (IntKind.wrap .i64 (z9x9 + 1))) y10_)))) y16))))))) (i.te [(vu z9x1), (vu z9x2), (vu z9x3), (vu z9x4), (vu z9x5), (vi z9x6), (vu z9x1), (vu z9x2), (vu z9x3), (vu z9x4), (vu z9x5), (vu z9x1), (vu z9x2), (vu z9x3), (vu z9x4), (vu z9x5), (vu z9x1), (vu z9x2), (vu z9x3), (vu z9x4), (vu z9x5), (vi z9x7), (vu z9x2)] [((none : Option Code), (subC [1, 0, 1, 1, 1, 0, 1, 0, 0, 1, 1, 0, 0, 1, 1, 1, 1, 1, 0, 0] (bodyOf Tryz.f71)), (subC [1, 0, 1, 1, 1, 0, 1, 0, 0, 1, 1, 0, 0, 1, 1, 1, 1, 1, 0, 1] (bodyOf Tryz.f71))), ((none : Option Code), (subC [1, 1, 0, 0] (bodyOf Tryz.f195)), (subC [1, 1, 0, 1] (bodyOf Tryz.f195)))] ((Sum.inr ()) = y10_)))
def next_Last_l1 : Nat → next_Last_l1_Z → next_Last_l1_Y → Prop
  | 0, _, _ => False
  | k + 1, (z9x0, z9x1, z9x2, z9x3, z9x4, z9x5, z9x6, z9x7, z9x8, z9x9), y10_ => (br (decide (z9x9 < z9x8)) (req ((decide (0 ≤ (IntKind.wrap .i64 ((IntKind.wrap .i64 ((((List.length z9x0) : Nat) : Int) - 1)) - z9x9)))) && (decide ((IntKind.wrap .i64 ((IntKind.wrap .i64 ((((List.length z9x0) : Nat) : Int) - 1)) - z9x9)) < (((List.length z9x0) : Nat) : Int)))) (req (Nat.blt (Int.toNat (IntKind.wrap .i64 ((IntKind.wrap .i64 ((((List.length z9x0) : Nat) : Int) - 1)) - z9x9))) (List.length z9x0)) (∃ y11 : List Int, (mask_All_R z9x1 y11) ∧ (∃ y16 : next_Last_l0_Y, next_Last_l0_L (z9x0, y11, z9x1, z9x2, z9x3, z9x4, z9x5, z9x6, z9x7, (List.getD z9x0 (Int.toNat (IntKind.wrap .i64 ((IntKind.wrap .i64 ((((List.length z9x0) : Nat) : Int) - 1)) - z9x9))) 0), (((List.length y11) : Nat) : Int), 0) y16 ∧ sume (fun y16 => ((Sum.inl y16) = y10_)) (fun y16 => (next_Last_l1 k (z9x0, z9x1, z9x2, z9x3, z9x4, z9x5, z9x6, z9x7, z9x8, (IntKind.wrap .i64 (z9x9 + 1))) y10_)) y16)))) ((Sum.inr ()) = y10_))
def next_Last_l1_L (z : next_Last_l1_Z) (y : next_Last_l1_Y) : Prop := ∃ k, next_Last_l1 k z y
noncomputable def q193_1_lp : Lp := .auto none q193_1_body (loopK q193_1_k fun z y => ∃ k, next_Last_l1 k z y)
noncomputable def q193_2_body : Code := subC [1, 0, 1, 1, 1, 0, 1, 0, 0] (bodyOf Tryz.f71)
abbrev next_Last_l2_Z : Type := Int × Int × Int × Int × Int × Int × Int × Int
abbrev next_Last_l2_Y : Type := Int × Bool
noncomputable def q193_2_k : LK := ⟨7, ⟨[(1, .w 6), (2, .lb true), (4, .ptr 2 0), (7, .ptr 3 0), (8, .ptr 4 0), (9, .ptr 5 0), (10, .fn 194 [] [.ptr 6 0]), (19, .w 7)], [.cells [.w 0, .w 1, .w 2, .w 3, .w 4], .cells [.w 5], .cells [.e (.z 0), .e (.z 1), .e (.z 2), .e (.z 3), .e (.z 4)], .cells [.fn 238 [] [.ptr 1 0]], .cells [.li .i64 0], .cells [.lb false], .cells [.e (.z 0), .e (.z 1), .e (.z 2), .e (.z 3), .e (.z 4)]], []⟩, [.int .u64, .int .u64, .int .u64, .int .u64, .int .u64, .int .i64, .int .i64, .int .i64], [], [], [0, 1, 2, 3, 4, 5], [⟨(.exit 0), ⟨[(8, .ptr 4 0), (9, .ptr 5 0)], [.cells [.e (.p 0), .e (.p 1), .e (.p 2), .e (.p 3), .e (.p 4)], .cells [.e (.p 5)], .dead, .dead, .cells [.w 0], .cells [.w 1], .dead], []⟩, [.int .i64, .bool], [], none⟩]⟩
def next_Last_l2_F (i : Ip) (l : next_Last_l2_Z → next_Last_l2_Y → Prop) (z3x0 z3x1 z3x2 z3x3 z3x4 z3x5 z3x6 z3x7 : Int) (y4_ : next_Last_l2_Y) : Prop :=
  (br (decide (z3x7 < 2923)) (∃ y5 : (Int × Int × Int) × Int, (days_At_R (IntKind.wrap .i64 (z3x6 - z3x7)) y5) ∧ (br ((y5.2) == 0) (∃ y6 : Bool, (cron_Day_R z3x0 z3x1 z3x2 z3x3 z3x4 (y5.1.1) (y5.1.2.1) (y5.1.2.2) y6) ∧ (br (!y6) (i.te [(vu z3x0), (vu z3x1), (vu z3x2), (vu z3x3), (vu z3x4), (vu z3x0), (vu z3x1), (vu z3x2), (vu z3x3), (vu z3x4)] [] (i.tq [(vu z3x0), (vu z3x1), (vu z3x2), (vu z3x3), (vu z3x4), (vi z3x5)] (l (z3x0, z3x1, z3x2, z3x3, z3x4, z3x5, z3x6, (IntKind.wrap .i64 (z3x7 + 1))) y4_))) (∃ y7 : List Int, (mask_All_R z3x1 y7) ∧ (i.cp (List.length y7) fun c8 hc8 => (i.lo none q193_1_body (i.te [(vu z3x0), (vu z3x1), (vu z3x2), (vu z3x3), (vu z3x4), (vu z3x0), (vu z3x1), (vu z3x2), (vu z3x3), (vu z3x4), (vu z3x0), (vu z3x1), (vu z3x2), (vu z3x3), (vu z3x4), (vu z3x1), (V.row 17 1 (List.length y7) c8)] [((none : Option Code), (subC [1, 0, 1, 1, 1, 0, 1, 0, 0, 1, 1, 0, 0, 1, 1, 1, 1, 1, 0, 0] (bodyOf Tryz.f71)), (subC [1, 0, 1, 1, 1, 0, 1, 0, 0, 1, 1, 0, 0, 1, 1, 1, 1, 1, 0, 1] (bodyOf Tryz.f71))), ((none : Option Code), (subC [1, 1, 0, 0] (bodyOf Tryz.f195)), (subC [1, 1, 0, 1] (bodyOf Tryz.f195)))] (∃ y18 : next_Last_l1_Y, next_Last_l1_L (y7, z3x0, z3x1, z3x2, z3x3, z3x4, z3x5, (IntKind.wrap .i64 (z3x6 - z3x7)), (((List.length y7) : Nat) : Int), 0) y18 ∧ sume (fun y18 => (i.te [(vu z3x0), (vu z3x1), (vu z3x2), (vu z3x3), (vu z3x4), (vi z3x5)] [] ((y18, true) = y4_))) (fun y18 => (i.te [(vu z3x0), (vu z3x1), (vu z3x2), (vu z3x3), (vu z3x4), (vu z3x0), (vu z3x1), (vu z3x2), (vu z3x3), (vu z3x4)] [] (i.tq [(vu z3x0), (vu z3x1), (vu z3x2), (vu z3x3), (vu z3x4), (vi z3x5)] (l (z3x0, z3x1, z3x2, z3x3, z3x4, z3x5, z3x6, (IntKind.wrap .i64 (z3x7 + 1))) y4_)))) y18))))))) (i.te [(vu z3x0), (vu z3x1), (vu z3x2), (vu z3x3), (vu z3x4), (vu z3x0), (vu z3x1), (vu z3x2), (vu z3x3), (vu z3x4)] [] (i.tq [(vu z3x0), (vu z3x1), (vu z3x2), (vu z3x3), (vu z3x4), (vi z3x5)] (l (z3x0, z3x1, z3x2, z3x3, z3x4, z3x5, z3x6, (IntKind.wrap .i64 (z3x7 + 1))) y4_))))) (i.te [(vu z3x0), (vu z3x1), (vu z3x2), (vu z3x3), (vu z3x4), (vi z3x5)] [] ((0, false) = y4_)))
def next_Last_l2 : Nat → next_Last_l2_Z → next_Last_l2_Y → Prop
  | 0, _, _ => False
  | k + 1, (z3x0, z3x1, z3x2, z3x3, z3x4, z3x5, z3x6, z3x7), y4_ => (br (decide (z3x7 < 2923)) (∃ y5 : (Int × Int × Int) × Int, (days_At_R (IntKind.wrap .i64 (z3x6 - z3x7)) y5) ∧ (br ((y5.2) == 0) (∃ y6 : Bool, (cron_Day_R z3x0 z3x1 z3x2 z3x3 z3x4 (y5.1.1) (y5.1.2.1) (y5.1.2.2) y6) ∧ (br (!y6) (next_Last_l2 k (z3x0, z3x1, z3x2, z3x3, z3x4, z3x5, z3x6, (IntKind.wrap .i64 (z3x7 + 1))) y4_) (∃ y7 : List Int, (mask_All_R z3x1 y7) ∧ (∃ y18 : next_Last_l1_Y, next_Last_l1_L (y7, z3x0, z3x1, z3x2, z3x3, z3x4, z3x5, (IntKind.wrap .i64 (z3x6 - z3x7)), (((List.length y7) : Nat) : Int), 0) y18 ∧ sume (fun y18 => ((y18, true) = y4_)) (fun y18 => (next_Last_l2 k (z3x0, z3x1, z3x2, z3x3, z3x4, z3x5, z3x6, (IntKind.wrap .i64 (z3x7 + 1))) y4_)) y18)))) (next_Last_l2 k (z3x0, z3x1, z3x2, z3x3, z3x4, z3x5, z3x6, (IntKind.wrap .i64 (z3x7 + 1))) y4_))) ((0, false) = y4_))
def next_Last_l2_L (z : next_Last_l2_Z) (y : next_Last_l2_Y) : Prop := ∃ k, next_Last_l2 k z y
noncomputable def q193_2_lp : Lp := .auto none q193_2_body (loopK q193_2_k fun z y => ∃ k, next_Last_l2 k z y)
noncomputable def q193_lp : Nat → FuncId → Nat → Nat → Lp := lpTab [(239, 2, 23, 3, q193_0_lp), (239, 2, 18, 5, q193_1_lp), (71, 5, 7, 7, q193_2_lp)]
theorem q193_0_t (n k : Nat) (z13x0 z13x1 : List Int) (z13x2 z13x3 z13x4 z13x5 z13x6 z13x7 z13x8 z13x9 z13x10 z13x11 : Int) (z13q0 z13q1 : Nat) (y14_ : next_Last_l0_Y) : rnd q193_cx okT q193_lp (n + 3) 239 none q193_0_body q193_0_k (next_Last_l0 k) (z13x0, z13x1, z13x2, z13x3, z13x4, z13x5, z13x6, z13x7, z13x8, z13x9, z13x10, z13x11) (z13q0, z13q1) () y14_ = next_Last_l0_F ipT (fun z y => next_Last_l0 k z y) z13x0 z13x1 z13x2 z13x3 z13x4 z13x5 z13x6 z13x7 z13x8 z13x9 z13x10 z13x11 z13q0 z13q1 y14_ := by kernel_rfl
theorem q193_0_r (k : Nat) (z13x0 z13x1 : List Int) (z13x2 z13x3 z13x4 z13x5 z13x6 z13x7 z13x8 z13x9 z13x10 z13x11 : Int) (z13q0 z13q1 : Nat) (y14_ : next_Last_l0_Y) : next_Last_l0 (k + 1) (z13x0, z13x1, z13x2, z13x3, z13x4, z13x5, z13x6, z13x7, z13x8, z13x9, z13x10, z13x11) y14_ → next_Last_l0_F ipT (fun z y => next_Last_l0 k z y) z13x0 z13x1 z13x2 z13x3 z13x4 z13x5 z13x6 z13x7 z13x8 z13x9 z13x10 z13x11 z13q0 z13q1 y14_ := by
  unfold next_Last_l0_F
  intro h; simp only [next_Last_l0] at h; revert h
  refine MI.run ?_
  repeat' (first | intro _ | with_reducible constructor)
theorem q193_0_ok (n : Nat) : Owed q193_cx okT 239 q193_lp (n + 3) q193_0_lp := owed_rnd (lk := q193_0_k) (l := next_Last_l0) (fun z y h => h) fun k z q c y h => Eq.mpr (q193_0_t n k z.1 z.2.1 z.2.2.1 z.2.2.2.1 z.2.2.2.2.1 z.2.2.2.2.2.1 z.2.2.2.2.2.2.1 z.2.2.2.2.2.2.2.1 z.2.2.2.2.2.2.2.2.1 z.2.2.2.2.2.2.2.2.2.1 z.2.2.2.2.2.2.2.2.2.2.1 z.2.2.2.2.2.2.2.2.2.2.2 q.1 q.2 y) (q193_0_r k z.1 z.2.1 z.2.2.1 z.2.2.2.1 z.2.2.2.2.1 z.2.2.2.2.2.1 z.2.2.2.2.2.2.1 z.2.2.2.2.2.2.2.1 z.2.2.2.2.2.2.2.2.1 z.2.2.2.2.2.2.2.2.2.1 z.2.2.2.2.2.2.2.2.2.2.1 z.2.2.2.2.2.2.2.2.2.2.2 q.1 q.2 y h)
theorem q193_1_t (n k : Nat) (z9x0 : List Int) (z9x1 z9x2 z9x3 z9x4 z9x5 z9x6 z9x7 z9x8 z9x9 : Int) (z9q0 : Nat) (y10_ : next_Last_l1_Y) : rnd q193_cx okT q193_lp (n + 5) 239 none q193_1_body q193_1_k (next_Last_l1 k) (z9x0, z9x1, z9x2, z9x3, z9x4, z9x5, z9x6, z9x7, z9x8, z9x9) z9q0 () y10_ = next_Last_l1_F ipT (fun z y => next_Last_l1 k z y) z9x0 z9x1 z9x2 z9x3 z9x4 z9x5 z9x6 z9x7 z9x8 z9x9 z9q0 y10_ := by kernel_rfl
theorem q193_1_r (k : Nat) (z9x0 : List Int) (z9x1 z9x2 z9x3 z9x4 z9x5 z9x6 z9x7 z9x8 z9x9 : Int) (z9q0 : Nat) (y10_ : next_Last_l1_Y) : next_Last_l1 (k + 1) (z9x0, z9x1, z9x2, z9x3, z9x4, z9x5, z9x6, z9x7, z9x8, z9x9) y10_ → next_Last_l1_F ipT (fun z y => next_Last_l1 k z y) z9x0 z9x1 z9x2 z9x3 z9x4 z9x5 z9x6 z9x7 z9x8 z9x9 z9q0 y10_ := by
  unfold next_Last_l1_F
  intro h; simp only [next_Last_l1] at h; revert h
  refine MI.run ?_
  repeat' (first | intro _ | with_reducible constructor)
theorem q193_1_ok (n : Nat) : Owed q193_cx okT 239 q193_lp (n + 5) q193_1_lp := owed_rnd (lk := q193_1_k) (l := next_Last_l1) (fun z y h => h) fun k z q c y h => Eq.mpr (q193_1_t n k z.1 z.2.1 z.2.2.1 z.2.2.2.1 z.2.2.2.2.1 z.2.2.2.2.2.1 z.2.2.2.2.2.2.1 z.2.2.2.2.2.2.2.1 z.2.2.2.2.2.2.2.2.1 z.2.2.2.2.2.2.2.2.2 q y) (q193_1_r k z.1 z.2.1 z.2.2.1 z.2.2.2.1 z.2.2.2.2.1 z.2.2.2.2.2.1 z.2.2.2.2.2.2.1 z.2.2.2.2.2.2.2.1 z.2.2.2.2.2.2.2.2.1 z.2.2.2.2.2.2.2.2.2 q y h)
theorem q193_2_t (n k : Nat) (z3x0 z3x1 z3x2 z3x3 z3x4 z3x5 z3x6 z3x7 : Int) (y4_ : next_Last_l2_Y) : rnd q193_cx okT q193_lp (n + 7) 71 none q193_2_body q193_2_k (next_Last_l2 k) (z3x0, z3x1, z3x2, z3x3, z3x4, z3x5, z3x6, z3x7) () () y4_ = next_Last_l2_F ipT (fun z y => next_Last_l2 k z y) z3x0 z3x1 z3x2 z3x3 z3x4 z3x5 z3x6 z3x7 y4_ := by kernel_rfl
theorem q193_2_r (k : Nat) (z3x0 z3x1 z3x2 z3x3 z3x4 z3x5 z3x6 z3x7 : Int) (y4_ : next_Last_l2_Y) : next_Last_l2 (k + 1) (z3x0, z3x1, z3x2, z3x3, z3x4, z3x5, z3x6, z3x7) y4_ → next_Last_l2_F ipT (fun z y => next_Last_l2 k z y) z3x0 z3x1 z3x2 z3x3 z3x4 z3x5 z3x6 z3x7 y4_ := by
  unfold next_Last_l2_F
  intro h; simp only [next_Last_l2] at h; revert h
  refine MI.run ?_
  repeat' (first | intro _ | with_reducible constructor)
theorem q193_2_ok (n : Nat) : Owed q193_cx okT 71 q193_lp (n + 7) q193_2_lp := owed_rnd (lk := q193_2_k) (l := next_Last_l2) (fun z y h => h) fun k z q c y h => Eq.mpr (q193_2_t n k z.1 z.2.1 z.2.2.1 z.2.2.2.1 z.2.2.2.2.1 z.2.2.2.2.2.1 z.2.2.2.2.2.2.1 z.2.2.2.2.2.2.2 y) (q193_2_r k z.1 z.2.1 z.2.2.1 z.2.2.2.1 z.2.2.2.2.1 z.2.2.2.2.2.1 z.2.2.2.2.2.2.1 z.2.2.2.2.2.2.2 y h)
def next_Last_j0 (p0 p1 p2 p3 p4 p5 : Int) (y : Int × Bool) : Prop :=
  (∃ y1 : Int, (next_of_R p0 y1) ∧ (∃ y2 : Int, (cron_Check_R p1 p2 p3 p4 p5 y2) ∧ (br (y2 != 0) ((0, false) = y) (∃ y20 : next_Last_l2_Y, next_Last_l2_L (p1, p2, p3, p4, p5, p0, y1, 0) y20 ∧ (((y20.1), (y20.2)) = y)))))
def next_Last_j0F (i : Ip) (p0 p1 p2 p3 p4 p5 : Int) (y : Int × Bool) : Prop :=
  (∃ y1 : Int, (next_of_R p0 y1) ∧ (∃ y2 : Int, (cron_Check_R p1 p2 p3 p4 p5 y2) ∧ (br (y2 != 0) ((0, false) = y) (i.lo none q193_2_body (i.te [(vu p1), (vu p2), (vu p3), (vu p4), (vu p5), (vu p1), (vu p2), (vu p3), (vu p4), (vu p5)] [] (∃ y20 : next_Last_l2_Y, next_Last_l2_L (p1, p2, p3, p4, p5, p0, y1, 0) y20 ∧ (i.an 1 (((y20.1), (y20.2)) = y))))))))
theorem next_Last_j0_r (p0 p1 p2 p3 p4 p5 : Int) (y : Int × Bool) : MI (next_Last_j0 p0 p1 p2 p3 p4 p5 y) (next_Last_j0F ipT p0 p1 p2 p3 p4 p5 y) := by
  unfold next_Last_j0 next_Last_j0F
  repeat' (first | intro _ | with_reducible constructor)
def next_Last_F (i : Ip) (a0 a1 a2 a3 a4 a5 : Int) (y : Int × Bool) : Prop :=
  (i.a2 (next_Last_j0F i a5 a0 a1 a2 a3 a4 y) (i.an 1 (next_Last_j0F i a5 a0 a1 a2 a3 a4 y)))
def next_Last_R (a0 a1 a2 a3 a4 a5 : Int) (y : Int × Bool) : Prop :=
  (next_Last_j0 a5 a0 a1 a2 a3 a4 y)
theorem q193_t (a0 a1 a2 a3 a4 a5 : Int) (y : Int × Bool) : acall q193_cx okT q193_lp 60 (.fn 193 [] []) [(V.agg [(vu a0), (vu a1), (vu a2), (vu a3), (vu a4)]), (vi a5)] [] (leafK B193 y) = next_Last_F ipT a0 a1 a2 a3 a4 a5 y := by kernel_rfl
theorem q193_r (a0 a1 a2 a3 a4 a5 : Int) (y : Int × Bool) : next_Last_R a0 a1 a2 a3 a4 a5 y → next_Last_F ipT a0 a1 a2 a3 a4 a5 y := by
  unfold next_Last_R next_Last_F
  refine MI.run ?_
  repeat' (first | intro _ | exact next_Last_j0_r _ _ _ _ _ _ _ | with_reducible constructor)
abbrev r193 (x : A193.den) (y : B193.den) : Prop := next_Last_R (x.1.1) (x.1.2.1) (x.1.2.2.1) (x.1.2.2.2.1) (x.1.2.2.2.2) (x.2) y
theorem next_Last_ok : FxOk Tryz.prog gsT 193 A193 B193 r193 := fo (c := q193_cx) rfl rfl (Fns_assoc ⟨cron_Check_ok, cron_Day_ok, b71, next_of_ok, days_At_ok, b140, b141, b193, b194, b195, b196, b238, b239, mask_All_ok, trivial⟩) (lp := q193_lp) (n := 60) (LpOk_tab ⟨q193_0_ok, q193_1_ok, q193_2_ok, trivial⟩) (enters Tryz.func193 (by kernel_rfl) rfl) (fun y => ⟨_, rfl⟩) fun x y h => Eq.mpr (q193_t _ _ _ _ _ _ y) (q193_r _ _ _ _ _ _ y h)
def e193 : Nat × Ent := (193, .fx A193 B193 r193)
noncomputable def c20 : Nat × Ent := (20, .body Tryz.f20)
theorem b20 {c : Cx} : EntOk Tryz.prog c 20 (.body Tryz.f20) := body_ent Tryz.func20 (by kernel_rfl) (by kernel_rfl)
noncomputable def c67 : Nat × Ent := (67, .body Tryz.f67)
theorem b67 {c : Cx} : EntOk Tryz.prog c 67 (.body Tryz.f67) := body_ent Tryz.func67 (by kernel_rfl) (by kernel_rfl)
noncomputable def c133 : Nat × Ent := (133, .body Tryz.f133)
theorem b133 {c : Cx} : EntOk Tryz.prog c 133 (.body Tryz.f133) := body_ent Tryz.func133 (by kernel_rfl) (by kernel_rfl)
noncomputable def c134 : Nat × Ent := (134, .body Tryz.f134)
theorem b134 {c : Cx} : EntOk Tryz.prog c 134 (.body Tryz.f134) := body_ent Tryz.func134 (by kernel_rfl) (by kernel_rfl)
noncomputable def c188 : Nat × Ent := (188, .body Tryz.f188)
theorem b188 {c : Cx} : EntOk Tryz.prog c 188 (.body Tryz.f188) := body_ent Tryz.func188 (by kernel_rfl) (by kernel_rfl)
noncomputable def c189 : Nat × Ent := (189, .body Tryz.f189)
theorem b189 {c : Cx} : EntOk Tryz.prog c 189 (.body Tryz.f189) := body_ent Tryz.func189 (by kernel_rfl) (by kernel_rfl)
noncomputable def c191 : Nat × Ent := (191, .body Tryz.f191)
theorem b191 {c : Cx} : EntOk Tryz.prog c 191 (.body Tryz.f191) := body_ent Tryz.func191 (by kernel_rfl) (by kernel_rfl)
abbrev A20 : RT := (.cons (.agg (.cons (.int .u32) (.cons .bool (.cons (.int .u64) (.cons (.int .u64) (.cons (.int .u64) (.cons (.int .u64) (.cons (.int .u64) (.cons (.int .i64) (.cons (.int .i64) (.cons (.int .i64) (.one (.int .i64))))))))))))) (.one (.int .i64)))
abbrev B20 : RT := (.tup (.cons (.int .i64) (.one .bool)))
noncomputable def q20_cx : Cx := ⟨tyT, [c20, e28, e29, c67, c133, c134, c188, c189, c191], gsT, eqT, false⟩
def job_First_R (a0 : Int) (a1 : Bool) (a2 a3 a4 a5 a6 a7 a8 a9 a10 a11 : Int) (y : Int × Bool) : Prop :=
  (∃ y1 : Int, (job_Check_R a0 a1 a2 a3 a4 a5 a6 a7 a8 a9 a10 y1) ∧ (br (y1 != 0) ((0, false) = y) (br a1 (br (!(decide (a7 > a11))) ((0, false) = y) ((a7, true) = y)) (∃ y2 : Int × Bool, (next_Next_R a2 a3 a4 a5 a6 a11 y2) ∧ (y2 = y)))))
theorem q20_t (a0 : Int) (a1 : Bool) (a2 a3 a4 a5 a6 a7 a8 a9 a10 a11 : Int) (y : Int × Bool) : acall q20_cx okT lpT 60 (.fn 20 [] []) [(V.agg [(V.int .u32 a0), (vb a1), (vu a2), (vu a3), (vu a4), (vu a5), (vu a6), (vi a7), (vi a8), (vi a9), (vi a10)]), (vi a11)] [] (leafK B20 y) = job_First_R a0 a1 a2 a3 a4 a5 a6 a7 a8 a9 a10 a11 y := by kernel_rfl
abbrev r20 (x : A20.den) (y : B20.den) : Prop := job_First_R (x.1.1) (x.1.2.1) (x.1.2.2.1) (x.1.2.2.2.1) (x.1.2.2.2.2.1) (x.1.2.2.2.2.2.1) (x.1.2.2.2.2.2.2.1) (x.1.2.2.2.2.2.2.2.1) (x.1.2.2.2.2.2.2.2.2.1) (x.1.2.2.2.2.2.2.2.2.2.1) (x.1.2.2.2.2.2.2.2.2.2.2) (x.2) y
theorem job_First_ok : FxOk Tryz.prog gsT 20 A20 B20 r20 := fo (c := q20_cx) rfl rfl (Fns_assoc ⟨b20, job_Check_ok, next_Next_ok, b67, b133, b134, b188, b189, b191, trivial⟩) (n := 60) (lp_ok) (enters Tryz.func20 (by kernel_rfl) rfl) (fun y => ⟨_, rfl⟩) fun x y h => Eq.mpr (q20_t _ _ _ _ _ _ _ _ _ _ _ _ y) h
def e20 : Nat × Ent := (20, .fx A20 B20 r20)
noncomputable def c22 : Nat × Ent := (22, .body Tryz.f22)
theorem b22 {c : Cx} : EntOk Tryz.prog c 22 (.body Tryz.f22) := body_ent Tryz.func22 (by kernel_rfl) (by kernel_rfl)
abbrev A22 : RT := (.cons (.agg (.cons (.int .u32) (.cons .bool (.cons (.int .u64) (.cons (.int .u64) (.cons (.int .u64) (.cons (.int .u64) (.cons (.int .u64) (.cons (.int .i64) (.cons (.int .i64) (.cons (.int .i64) (.one (.int .i64))))))))))))) (.cons (.agg (.cons (.int .i64) (.one (.int .i64)))) (.one (.int .i64))))
abbrev B22 : RT := (.tup (.cons (.nw (.int .i64) 2) (.one (.int .i64))))
noncomputable def q22_cx : Cx := ⟨tyT, [c22, e28, e29, c67, c133, c134, c188, c189, c191], gsT, eqT, false⟩
noncomputable def q22_0_body : Code := subC [1, 0, 1, 1, 1, 1, 1, 1, 0, 0, 0] (bodyOf Tryz.f22)
abbrev job_Times_l0_Z : Type := Int × Int × Int
abbrev job_Times_l0_Y : Type := Unit
noncomputable def q22_0_k : LK := ⟨3, ⟨[(2, .w 2), (4, .ptr 1 0), (9, .ptr 2 0), (11, .nil), (12, .e (.z 0))], [.dead, .cells [.w 0, .w 1], .cells [.nilf, .nilf]], []⟩, [.int .i64, .int .i64, .int .i64], [], [], [], [⟨(.exit 0), ⟨[(11, .nil)], [.dead, .dead, .dead], []⟩, [], [], none⟩]⟩
def job_Times_l0 : Nat → job_Times_l0_Z → job_Times_l0_Y → Prop
  | 0, _, _ => False
  | k + 1, (z3x0, z3x1, z3x2), y4_ => (br (decide (0 < z3x2)) False (() = y4_))
def job_Times_l0_L (z : job_Times_l0_Z) (y : job_Times_l0_Y) : Prop := ∃ k, job_Times_l0 k z y
noncomputable def q22_0_lp : Lp := .auto none q22_0_body (loopK q22_0_k fun z y => ∃ k, job_Times_l0 k z y)
noncomputable def q22_1_body : Code := subC [1, 0, 1, 1, 1, 1, 1, 1, 0, 0, 0] (bodyOf Tryz.f22)
abbrev job_Times_l1_Z : Type := List Int × Int × Int × Int × Int × Int
abbrev job_Times_l1_Y : Type := List Int
noncomputable def q22_1_k : LK := ⟨8, ⟨[(2, .w 4), (4, .ptr 1 0), (9, .ptr 7 0), (11, .row 8 1 (.z 0) (.c 0)), (12, .w 5)], [.dead, .cells [.w 1, .w 2], .dead, .dead, .cells [.w 3], .dead, .cells [.fn 188 [] [.ptr 4 0]], .cells [.fn 189 [] [.ptr 6 0, .ptr 4 0], .fn 190 [] [.ptr 6 0, .ptr 4 0]], .row (.int .i64) (.z 0) 2 (.c 0)], []⟩, [.sl (.int .i64), .int .i64, .int .i64, .int .i64, .int .i64, .int .i64], [], [.nat], [], [⟨(.exit 0), ⟨[(11, .row 8 1 (.z 0) (.c 0))], [.dead, .dead, .dead, .dead, .dead, .dead, .dead, .dead, .row (.int .i64) (.z 0) 2 (.c 0)], []⟩, [.sl (.int .i64)], [.nat], none⟩]⟩
def job_Times_l1_F (i : Ip) (l : job_Times_l1_Z → job_Times_l1_Y → Prop) (z7x0 : List Int) (z7x1 z7x2 z7x3 z7x4 z7x5 : Int) (z7k0 : Nat) (y8_ : job_Times_l1_Y) : Prop :=
  (br (decide ((((List.length z7x0) : Nat) : Int) < z7x4)) (br (!(decide (z7x3 > z7x5))) (i.te [(V.row 8 1 (List.length z7x0) z7k0)] [] (z7x0 = y8_)) (br (decide (z7x3 > z7x2)) (i.te [(V.row 8 1 (List.length z7x0) z7k0)] [] (z7x0 = y8_)) (i.r2 (Nat.ble ((List.length (z7x0 ++ [z7x3])) * 9) 140737488355328) (((((true && true) && true) && (Nat.beq (List.length z7x0) (List.length z7x0))) && (Nat.beq z7k0 z7k0)) && (Nat.ble ((List.length (z7x0 ++ [z7x3])) * 9) 140737488355328)) (fun q => (band (band (band (band (band rfl rfl) rfl) (Nat.beq_refl _)) (Nat.beq_refl _)) q)) (i.cp (List.length (z7x0 ++ [z7x3])) fun c9 hc9 => (i.te [(V.row 8 1 (List.length (z7x0 ++ [z7x3])) c9)] [] (l ((z7x0 ++ [z7x3]), z7x1, z7x2, z7x3, z7x4, z7x3) y8_)))))) (i.te [(V.row 8 1 (List.length z7x0) z7k0)] [] (z7x0 = y8_)))
def job_Times_l1 : Nat → job_Times_l1_Z → job_Times_l1_Y → Prop
  | 0, _, _ => False
  | k + 1, (z7x0, z7x1, z7x2, z7x3, z7x4, z7x5), y8_ => (br (decide ((((List.length z7x0) : Nat) : Int) < z7x4)) (br (!(decide (z7x3 > z7x5))) (z7x0 = y8_) (br (decide (z7x3 > z7x2)) (z7x0 = y8_) (req (Nat.ble ((List.length (z7x0 ++ [z7x3])) * 9) 140737488355328) (job_Times_l1 k ((z7x0 ++ [z7x3]), z7x1, z7x2, z7x3, z7x4, z7x3) y8_)))) (z7x0 = y8_))
def job_Times_l1_L (z : job_Times_l1_Z) (y : job_Times_l1_Y) : Prop := ∃ k, job_Times_l1 k z y
noncomputable def q22_1_lp : Lp := .auto none q22_1_body (loopK q22_1_k fun z y => ∃ k, job_Times_l1 k z y)
noncomputable def q22_2_body : Code := subC [1, 0, 1, 1, 1, 1, 1, 1, 0, 0, 0] (bodyOf Tryz.f22)
abbrev job_Times_l2_Z : Type := List Int × Int × Int × Int × Int × Int × Int × Int × Int × Int
abbrev job_Times_l2_Y : Type := List Int
noncomputable def q22_2_k : LK := ⟨7, ⟨[(2, .w 8), (4, .ptr 1 0), (9, .ptr 6 0), (11, .row 7 1 (.z 0) (.c 0)), (12, .w 9)], [.dead, .cells [.w 1, .w 2], .dead, .dead, .cells [.w 3, .w 4, .w 5, .w 6, .w 7], .dead, .cells [.fn 191 [] [.ptr 4 0], .fn 192 [] [.ptr 4 0]], .row (.int .i64) (.z 0) 2 (.c 0)], []⟩, [.sl (.int .i64), .int .i64, .int .i64, .int .u64, .int .u64, .int .u64, .int .u64, .int .u64, .int .i64, .int .i64], [], [.nat], [], [⟨(.exit 0), ⟨[(11, .row 7 1 (.z 0) (.c 0))], [.dead, .dead, .dead, .dead, .dead, .dead, .dead, .row (.int .i64) (.z 0) 2 (.c 0)], []⟩, [.sl (.int .i64)], [.nat], none⟩]⟩
def job_Times_l2_F (i : Ip) (l : job_Times_l2_Z → job_Times_l2_Y → Prop) (z12x0 : List Int) (z12x1 z12x2 z12x3 z12x4 z12x5 z12x6 z12x7 z12x8 z12x9 : Int) (z12k0 : Nat) (y13_ : job_Times_l2_Y) : Prop :=
  (br (decide ((((List.length z12x0) : Nat) : Int) < z12x8)) (∃ y14 : Int × Bool, (next_Next_R z12x3 z12x4 z12x5 z12x6 z12x7 z12x9 y14) ∧ (br (!(y14.2)) (i.te [(V.row 7 1 (List.length z12x0) z12k0)] [] (z12x0 = y13_)) (br (decide ((y14.1) > z12x2)) (i.te [(V.row 7 1 (List.length z12x0) z12k0)] [] (z12x0 = y13_)) (i.r2 (Nat.ble ((List.length (z12x0 ++ [(y14.1)])) * 9) 140737488355328) (((((true && true) && true) && (Nat.beq (List.length z12x0) (List.length z12x0))) && (Nat.beq z12k0 z12k0)) && (Nat.ble ((List.length (z12x0 ++ [(y14.1)])) * 9) 140737488355328)) (fun q => (band (band (band (band (band rfl rfl) rfl) (Nat.beq_refl _)) (Nat.beq_refl _)) q)) (i.cp (List.length (z12x0 ++ [(y14.1)])) fun c15 hc15 => (i.te [(V.row 7 1 (List.length (z12x0 ++ [(y14.1)])) c15)] [] (l ((z12x0 ++ [(y14.1)]), z12x1, z12x2, z12x3, z12x4, z12x5, z12x6, z12x7, z12x8, (y14.1)) y13_))))))) (i.te [(V.row 7 1 (List.length z12x0) z12k0)] [] (z12x0 = y13_)))
def job_Times_l2 : Nat → job_Times_l2_Z → job_Times_l2_Y → Prop
  | 0, _, _ => False
  | k + 1, (z12x0, z12x1, z12x2, z12x3, z12x4, z12x5, z12x6, z12x7, z12x8, z12x9), y13_ => (br (decide ((((List.length z12x0) : Nat) : Int) < z12x8)) (∃ y14 : Int × Bool, (next_Next_R z12x3 z12x4 z12x5 z12x6 z12x7 z12x9 y14) ∧ (br (!(y14.2)) (z12x0 = y13_) (br (decide ((y14.1) > z12x2)) (z12x0 = y13_) (req (Nat.ble ((List.length (z12x0 ++ [(y14.1)])) * 9) 140737488355328) (job_Times_l2 k ((z12x0 ++ [(y14.1)]), z12x1, z12x2, z12x3, z12x4, z12x5, z12x6, z12x7, z12x8, (y14.1)) y13_))))) (z12x0 = y13_))
def job_Times_l2_L (z : job_Times_l2_Z) (y : job_Times_l2_Y) : Prop := ∃ k, job_Times_l2 k z y
noncomputable def q22_2_lp : Lp := .auto none q22_2_body (loopK q22_2_k fun z y => ∃ k, job_Times_l2 k z y)
noncomputable def q22_lp : Nat → FuncId → Nat → Nat → Lp := lpTab [(22, 9, 3, 1, q22_0_lp), (22, 9, 8, 2, q22_1_lp), (22, 9, 7, 2, q22_2_lp)]
theorem q22_0_t (n k : Nat) (z3x0 z3x1 z3x2 : Int) (y4_ : job_Times_l0_Y) : rnd q22_cx okT q22_lp (n + 1) 22 none q22_0_body q22_0_k (job_Times_l0 k) (z3x0, z3x1, z3x2) () () y4_ = job_Times_l0 (k + 1) (z3x0, z3x1, z3x2) y4_ := by kernel_rfl
theorem q22_0_ok (n : Nat) : Owed q22_cx okT 22 q22_lp (n + 1) q22_0_lp := owed_rnd (lk := q22_0_k) (l := job_Times_l0) (fun z y h => h) fun k z q c y h => Eq.mpr (q22_0_t n k z.1 z.2.1 z.2.2 y) h
theorem q22_1_t (n k : Nat) (z7x0 : List Int) (z7x1 z7x2 z7x3 z7x4 z7x5 : Int) (z7k0 : Nat) (y8_ : job_Times_l1_Y) : rnd q22_cx okT q22_lp (n + 2) 22 none q22_1_body q22_1_k (job_Times_l1 k) (z7x0, z7x1, z7x2, z7x3, z7x4, z7x5) () z7k0 y8_ = job_Times_l1_F ipT (fun z y => job_Times_l1 k z y) z7x0 z7x1 z7x2 z7x3 z7x4 z7x5 z7k0 y8_ := by kernel_rfl
theorem q22_1_r (k : Nat) (z7x0 : List Int) (z7x1 z7x2 z7x3 z7x4 z7x5 : Int) (z7k0 : Nat) (y8_ : job_Times_l1_Y) : job_Times_l1 (k + 1) (z7x0, z7x1, z7x2, z7x3, z7x4, z7x5) y8_ → job_Times_l1_F ipT (fun z y => job_Times_l1 k z y) z7x0 z7x1 z7x2 z7x3 z7x4 z7x5 z7k0 y8_ := by
  unfold job_Times_l1_F
  intro h; simp only [job_Times_l1] at h; revert h
  refine MI.run ?_
  repeat' (first | intro _ | with_reducible constructor)
theorem q22_1_ok (n : Nat) : Owed q22_cx okT 22 q22_lp (n + 2) q22_1_lp := owed_rnd (lk := q22_1_k) (l := job_Times_l1) (fun z y h => h) fun k z q c y h => Eq.mpr (q22_1_t n k z.1 z.2.1 z.2.2.1 z.2.2.2.1 z.2.2.2.2.1 z.2.2.2.2.2 c y) (q22_1_r k z.1 z.2.1 z.2.2.1 z.2.2.2.1 z.2.2.2.2.1 z.2.2.2.2.2 c y h)
theorem q22_2_t (n k : Nat) (z12x0 : List Int) (z12x1 z12x2 z12x3 z12x4 z12x5 z12x6 z12x7 z12x8 z12x9 : Int) (z12k0 : Nat) (y13_ : job_Times_l2_Y) : rnd q22_cx okT q22_lp (n + 2) 22 none q22_2_body q22_2_k (job_Times_l2 k) (z12x0, z12x1, z12x2, z12x3, z12x4, z12x5, z12x6, z12x7, z12x8, z12x9) () z12k0 y13_ = job_Times_l2_F ipT (fun z y => job_Times_l2 k z y) z12x0 z12x1 z12x2 z12x3 z12x4 z12x5 z12x6 z12x7 z12x8 z12x9 z12k0 y13_ := by kernel_rfl
theorem q22_2_r (k : Nat) (z12x0 : List Int) (z12x1 z12x2 z12x3 z12x4 z12x5 z12x6 z12x7 z12x8 z12x9 : Int) (z12k0 : Nat) (y13_ : job_Times_l2_Y) : job_Times_l2 (k + 1) (z12x0, z12x1, z12x2, z12x3, z12x4, z12x5, z12x6, z12x7, z12x8, z12x9) y13_ → job_Times_l2_F ipT (fun z y => job_Times_l2 k z y) z12x0 z12x1 z12x2 z12x3 z12x4 z12x5 z12x6 z12x7 z12x8 z12x9 z12k0 y13_ := by
  unfold job_Times_l2_F
  intro h; simp only [job_Times_l2] at h; revert h
  refine MI.run ?_
  repeat' (first | intro _ | with_reducible constructor)
theorem q22_2_ok (n : Nat) : Owed q22_cx okT 22 q22_lp (n + 2) q22_2_lp := owed_rnd (lk := q22_2_k) (l := job_Times_l2) (fun z y h => h) fun k z q c y h => Eq.mpr (q22_2_t n k z.1 z.2.1 z.2.2.1 z.2.2.2.1 z.2.2.2.2.1 z.2.2.2.2.2.1 z.2.2.2.2.2.2.1 z.2.2.2.2.2.2.2.1 z.2.2.2.2.2.2.2.2.1 z.2.2.2.2.2.2.2.2.2 c y) (q22_2_r k z.1 z.2.1 z.2.2.1 z.2.2.2.1 z.2.2.2.2.1 z.2.2.2.2.2.1 z.2.2.2.2.2.2.1 z.2.2.2.2.2.2.2.1 z.2.2.2.2.2.2.2.2.1 z.2.2.2.2.2.2.2.2.2 c y h)
def job_Times_F (i : Ip) (a0 : Int) (a1 : Bool) (a2 a3 a4 a5 a6 a7 a8 a9 a10 a11 a12 a13 : Int) (y : List Int × Int) : Prop :=
  (∃ y1 : Int, (job_Check_R a0 a1 a2 a3 a4 a5 a6 a7 a8 a9 a10 y1) ∧ (br (y1 != 0) (([], y1) = y) (br (decide (a13 < 0)) (([], 2) = y) (br (decide (a13 > 64)) (([], 2) = y) (∃ y2 : Int, (job_Check_R a0 a1 a2 a3 a4 a5 a6 a7 a8 a9 a10 y2) ∧ (br (y2 != 0) (i.lo none q22_0_body (i.te [(vi a11)] [] (∃ y6 : job_Times_l0_Y, job_Times_l0_L (a11, a12, a13) y6 ∧ (([], 0) = y)))) (br a1 (i.lo none q22_1_body (i.te [(V.row 8 1 0 0)] [] (∃ y11 : job_Times_l1_Y, job_Times_l1_L ([], a11, a12, a7, a13, a11) y11 ∧ (i.cq [.nat] fun y11c => (i.tr ((true && true) && (((Nat.beq (List.length y11) (List.length y11)) && (Nat.beq y11c y11c)) && true)) (band (band rfl rfl) (band (band (Nat.beq_refl _) (Nat.beq_refl _)) rfl)) ((y11, 0) = y)))))) (i.lo none q22_2_body (i.te [(V.row 7 1 0 0)] [] (∃ y17 : job_Times_l2_Y, job_Times_l2_L ([], a11, a12, a2, a3, a4, a5, a6, a13, a11) y17 ∧ (i.cq [.nat] fun y17c => (i.tr ((true && true) && (((Nat.beq (List.length y17) (List.length y17)) && (Nat.beq y17c y17c)) && true)) (band (band rfl rfl) (band (band (Nat.beq_refl _) (Nat.beq_refl _)) rfl)) ((y17, 0) = y)))))))))))))
def job_Times_R (a0 : Int) (a1 : Bool) (a2 a3 a4 a5 a6 a7 a8 a9 a10 a11 a12 a13 : Int) (y : List Int × Int) : Prop :=
  (∃ y1 : Int, (job_Check_R a0 a1 a2 a3 a4 a5 a6 a7 a8 a9 a10 y1) ∧ (br (y1 != 0) (([], y1) = y) (br (decide (a13 < 0)) (([], 2) = y) (br (decide (a13 > 64)) (([], 2) = y) (∃ y2 : Int, (job_Check_R a0 a1 a2 a3 a4 a5 a6 a7 a8 a9 a10 y2) ∧ (br (y2 != 0) (∃ y6 : job_Times_l0_Y, job_Times_l0_L (a11, a12, a13) y6 ∧ (([], 0) = y)) (br a1 (∃ y11 : job_Times_l1_Y, job_Times_l1_L ([], a11, a12, a7, a13, a11) y11 ∧ ((y11, 0) = y)) (∃ y17 : job_Times_l2_Y, job_Times_l2_L ([], a11, a12, a2, a3, a4, a5, a6, a13, a11) y17 ∧ ((y17, 0) = y)))))))))
theorem q22_t (a0 : Int) (a1 : Bool) (a2 a3 a4 a5 a6 a7 a8 a9 a10 a11 a12 a13 : Int) (y : List Int × Int) : acall q22_cx okT q22_lp 60 (.fn 22 [] []) [(V.agg [(V.int .u32 a0), (vb a1), (vu a2), (vu a3), (vu a4), (vu a5), (vu a6), (vi a7), (vi a8), (vi a9), (vi a10)]), (V.agg [(vi a11), (vi a12)]), (vi a13)] [] (leafK B22 y) = job_Times_F ipT a0 a1 a2 a3 a4 a5 a6 a7 a8 a9 a10 a11 a12 a13 y := by kernel_rfl
theorem q22_r (a0 : Int) (a1 : Bool) (a2 a3 a4 a5 a6 a7 a8 a9 a10 a11 a12 a13 : Int) (y : List Int × Int) : job_Times_R a0 a1 a2 a3 a4 a5 a6 a7 a8 a9 a10 a11 a12 a13 y → job_Times_F ipT a0 a1 a2 a3 a4 a5 a6 a7 a8 a9 a10 a11 a12 a13 y := by
  unfold job_Times_R job_Times_F
  refine MI.run ?_
  repeat' (first | intro _ | with_reducible constructor)
abbrev r22 (x : A22.den) (y : B22.den) : Prop := job_Times_R (x.1.1) (x.1.2.1) (x.1.2.2.1) (x.1.2.2.2.1) (x.1.2.2.2.2.1) (x.1.2.2.2.2.2.1) (x.1.2.2.2.2.2.2.1) (x.1.2.2.2.2.2.2.2.1) (x.1.2.2.2.2.2.2.2.2.1) (x.1.2.2.2.2.2.2.2.2.2.1) (x.1.2.2.2.2.2.2.2.2.2.2) (x.2.1.1) (x.2.1.2) (x.2.2) y
theorem job_Times_ok : FxOk Tryz.prog gsT 22 A22 B22 r22 := fo (c := q22_cx) rfl rfl (Fns_assoc ⟨b22, job_Check_ok, next_Next_ok, b67, b133, b134, b188, b189, b191, trivial⟩) (lp := q22_lp) (n := 60) (LpOk_tab ⟨q22_0_ok, q22_1_ok, q22_2_ok, trivial⟩) (enters Tryz.func22 (by kernel_rfl) rfl) (fun y => ⟨_, rfl⟩) fun x y h => Eq.mpr (q22_t _ _ _ _ _ _ _ _ _ _ _ _ _ _ y) (q22_r _ _ _ _ _ _ _ _ _ _ _ _ _ _ y h)
def e22 : Nat × Ent := (22, .fx A22 B22 r22)
noncomputable def c26 : Nat × Ent := (26, .body Tryz.f26)
theorem b26 {c : Cx} : EntOk Tryz.prog c 26 (.body Tryz.f26) := body_ent Tryz.func26 (by kernel_rfl) (by kernel_rfl)
abbrev A26 : RT := (.cons (.sl (.int .i64)) (.one (.sl (.int .i64))))
abbrev B26 : RT := .bool
noncomputable def q26_cx : Cx := ⟨tyT, [c26], gsT, eqT, false⟩
noncomputable def q26_0_body : Code := subC [1, 1, 0, 1, 0, 0] (bodyOf Tryz.f26)
abbrev slices_Equal__int64_int64_l0_Z : Type := List Int × List Int × Int × Int
abbrev slices_Equal__int64_int64_l0_Y : Type := (Unit) ⊕ (Unit)
noncomputable def q26_0_k : LK := ⟨0, ⟨[(0, .sl (.int .i64) 0), (1, .sl (.int .i64) 1), (12, .w 2), (13, .w 3)], [], []⟩, [.sl (.int .i64), .sl (.int .i64), .int .i64, .int .i64], [], [], [], [⟨.ret, ⟨[(4, .lb false)], [], []⟩, [], [], none⟩, ⟨(.exit 0), ⟨[], [], []⟩, [], [], none⟩]⟩
def slices_Equal__int64_int64_l0_F (i : Ip) (l : slices_Equal__int64_int64_l0_Z → slices_Equal__int64_int64_l0_Y → Prop) (z1x0 z1x1 : List Int) (z1x2 z1x3 : Int) (y2_ : slices_Equal__int64_int64_l0_Y) : Prop :=
  (br (decide (z1x3 < z1x2)) (i.rq ((decide (0 ≤ z1x3)) && (decide (z1x3 < (((List.length z1x0) : Nat) : Int)))) (i.rq ((decide (0 ≤ z1x3)) && (decide (z1x3 < (((List.length z1x1) : Nat) : Int)))) (br ((List.getD z1x0 (Int.toNat z1x3) 0) != (List.getD z1x1 (Int.toNat z1x3) 0)) ((Sum.inl ()) = y2_) (l (z1x0, z1x1, z1x2, (IntKind.wrap .i64 (z1x3 + 1))) y2_)))) ((Sum.inr ()) = y2_))
def slices_Equal__int64_int64_l0 : Nat → slices_Equal__int64_int64_l0_Z → slices_Equal__int64_int64_l0_Y → Prop
  | 0, _, _ => False
  | k + 1, (z1x0, z1x1, z1x2, z1x3), y2_ => (br (decide (z1x3 < z1x2)) (req ((decide (0 ≤ z1x3)) && (decide (z1x3 < (((List.length z1x0) : Nat) : Int)))) (req ((decide (0 ≤ z1x3)) && (decide (z1x3 < (((List.length z1x1) : Nat) : Int)))) (br ((List.getD z1x0 (Int.toNat z1x3) 0) != (List.getD z1x1 (Int.toNat z1x3) 0)) ((Sum.inl ()) = y2_) (slices_Equal__int64_int64_l0 k (z1x0, z1x1, z1x2, (IntKind.wrap .i64 (z1x3 + 1))) y2_)))) ((Sum.inr ()) = y2_))
def slices_Equal__int64_int64_l0_L (z : slices_Equal__int64_int64_l0_Z) (y : slices_Equal__int64_int64_l0_Y) : Prop := ∃ k, slices_Equal__int64_int64_l0 k z y
noncomputable def q26_0_lp : Lp := .auto none q26_0_body (loopK q26_0_k fun z y => ∃ k, slices_Equal__int64_int64_l0 k z y)
noncomputable def q26_lp : Nat → FuncId → Nat → Nat → Lp := lpTab [(26, 4, 0, 0, q26_0_lp)]
theorem q26_0_t (n k : Nat) (z1x0 z1x1 : List Int) (z1x2 z1x3 : Int) (y2_ : slices_Equal__int64_int64_l0_Y) : rnd q26_cx okT q26_lp (n + 0) 26 none q26_0_body q26_0_k (slices_Equal__int64_int64_l0 k) (z1x0, z1x1, z1x2, z1x3) () () y2_ = slices_Equal__int64_int64_l0_F ipT (fun z y => slices_Equal__int64_int64_l0 k z y) z1x0 z1x1 z1x2 z1x3 y2_ := by kernel_rfl
theorem q26_0_r (k : Nat) (z1x0 z1x1 : List Int) (z1x2 z1x3 : Int) (y2_ : slices_Equal__int64_int64_l0_Y) : slices_Equal__int64_int64_l0 (k + 1) (z1x0, z1x1, z1x2, z1x3) y2_ → slices_Equal__int64_int64_l0_F ipT (fun z y => slices_Equal__int64_int64_l0 k z y) z1x0 z1x1 z1x2 z1x3 y2_ := by
  unfold slices_Equal__int64_int64_l0_F
  intro h; simp only [slices_Equal__int64_int64_l0] at h; revert h
  refine MI.run ?_
  repeat' (first | intro _ | with_reducible constructor)
theorem q26_0_ok (n : Nat) : Owed q26_cx okT 26 q26_lp (n + 0) q26_0_lp := owed_rnd (lk := q26_0_k) (l := slices_Equal__int64_int64_l0) (fun z y h => h) fun k z q c y h => Eq.mpr (q26_0_t n k z.1 z.2.1 z.2.2.1 z.2.2.2 y) (q26_0_r k z.1 z.2.1 z.2.2.1 z.2.2.2 y h)
def slices_Equal__int64_int64_F (i : Ip) (a0 a1 : List Int) (y : Bool) : Prop :=
  (br ((((List.length a0) : Nat) : Int) != (((List.length a1) : Nat) : Int)) (false = y) (i.lo none q26_0_body (∃ y4 : slices_Equal__int64_int64_l0_Y, slices_Equal__int64_int64_l0_L (a0, a1, (((List.length a0) : Nat) : Int), 0) y4 ∧ sume (fun y4 => (false = y)) (fun y4 => (true = y)) y4)))
def slices_Equal__int64_int64_R (a0 a1 : List Int) (y : Bool) : Prop :=
  (br ((((List.length a0) : Nat) : Int) != (((List.length a1) : Nat) : Int)) (false = y) (∃ y4 : slices_Equal__int64_int64_l0_Y, slices_Equal__int64_int64_l0_L (a0, a1, (((List.length a0) : Nat) : Int), 0) y4 ∧ sume (fun y4 => (false = y)) (fun y4 => (true = y)) y4))
theorem q26_t (a0 a1 : List Int) (y : Bool) : acall q26_cx okT q26_lp 60 (.fn 26 [] []) [(V.sl (.int .i64) a0 none), (V.sl (.int .i64) a1 none)] [] (leafK B26 y) = slices_Equal__int64_int64_F ipT a0 a1 y := by kernel_rfl
theorem q26_r (a0 a1 : List Int) (y : Bool) : slices_Equal__int64_int64_R a0 a1 y → slices_Equal__int64_int64_F ipT a0 a1 y := by
  unfold slices_Equal__int64_int64_R slices_Equal__int64_int64_F
  refine MI.run ?_
  repeat' (first | intro _ | with_reducible constructor)
abbrev r26 (x : A26.den) (y : B26.den) : Prop := slices_Equal__int64_int64_R (x.1) (x.2) y
theorem slices_Equal__int64_int64_ok : FxOk Tryz.prog gsT 26 A26 B26 r26 := fo (c := q26_cx) rfl rfl (Fns_assoc ⟨b26, trivial⟩) (lp := q26_lp) (n := 60) (LpOk_tab ⟨q26_0_ok, trivial⟩) (enters Tryz.func26 (by kernel_rfl) rfl) (fun y => ⟨_, rfl⟩) fun x y h => Eq.mpr (q26_t _ _ y) (q26_r _ _ y h)
def e26 : Nat × Ent := (26, .fx A26 B26 r26)
noncomputable def c27 : Nat × Ent := (27, .body Tryz.f27)
theorem b27 {c : Cx} : EntOk Tryz.prog c 27 (.body Tryz.f27) := body_ent Tryz.func27 (by kernel_rfl) (by kernel_rfl)
abbrev A27 : RT := (.cons (.agg (.cons (.int .u32) (.cons .bool (.cons (.int .u64) (.cons (.int .u64) (.cons (.int .u64) (.cons (.int .u64) (.cons (.int .u64) (.cons (.int .i64) (.cons (.int .i64) (.cons (.int .i64) (.one (.int .i64))))))))))))) (.one (.agg (.cons (.int .i64) (.one (.int .i64))))))
abbrev B27 : RT := .bool
noncomputable def q27_cx : Cx := ⟨tyT, [e22, c27], gsT, eqT, false⟩
def job_Idle_F (i : Ip) (a0 : Int) (a1 : Bool) (a2 a3 a4 a5 a6 a7 a8 a9 a10 a11 a12 : Int) (y : Bool) : Prop :=
  (∃ y1 : List Int × Int, (job_Times_R a0 a1 a2 a3 a4 a5 a6 a7 a8 a9 a10 a11 a12 1 y1) ∧ (i.cp (List.length (y1.1)) fun c2 hc2 => (br ((y1.2) == 0) (((((List.length (y1.1)) : Nat) : Int) == 0) = y) (false = y))))
def job_Idle_R (a0 : Int) (a1 : Bool) (a2 a3 a4 a5 a6 a7 a8 a9 a10 a11 a12 : Int) (y : Bool) : Prop :=
  (∃ y1 : List Int × Int, (job_Times_R a0 a1 a2 a3 a4 a5 a6 a7 a8 a9 a10 a11 a12 1 y1) ∧ (br ((y1.2) == 0) (((((List.length (y1.1)) : Nat) : Int) == 0) = y) (false = y)))
theorem q27_t (a0 : Int) (a1 : Bool) (a2 a3 a4 a5 a6 a7 a8 a9 a10 a11 a12 : Int) (y : Bool) : acall q27_cx okT lpT 60 (.fn 27 [] []) [(V.agg [(V.int .u32 a0), (vb a1), (vu a2), (vu a3), (vu a4), (vu a5), (vu a6), (vi a7), (vi a8), (vi a9), (vi a10)]), (V.agg [(vi a11), (vi a12)])] [] (leafK B27 y) = job_Idle_F ipT a0 a1 a2 a3 a4 a5 a6 a7 a8 a9 a10 a11 a12 y := by kernel_rfl
theorem q27_r (a0 : Int) (a1 : Bool) (a2 a3 a4 a5 a6 a7 a8 a9 a10 a11 a12 : Int) (y : Bool) : job_Idle_R a0 a1 a2 a3 a4 a5 a6 a7 a8 a9 a10 a11 a12 y → job_Idle_F ipT a0 a1 a2 a3 a4 a5 a6 a7 a8 a9 a10 a11 a12 y := by
  unfold job_Idle_R job_Idle_F
  refine MI.run ?_
  repeat' (first | intro _ | with_reducible constructor)
abbrev r27 (x : A27.den) (y : B27.den) : Prop := job_Idle_R (x.1.1) (x.1.2.1) (x.1.2.2.1) (x.1.2.2.2.1) (x.1.2.2.2.2.1) (x.1.2.2.2.2.2.1) (x.1.2.2.2.2.2.2.1) (x.1.2.2.2.2.2.2.2.1) (x.1.2.2.2.2.2.2.2.2.1) (x.1.2.2.2.2.2.2.2.2.2.1) (x.1.2.2.2.2.2.2.2.2.2.2) (x.2.1) (x.2.2) y
theorem job_Idle_ok : FxOk Tryz.prog gsT 27 A27 B27 r27 := fo (c := q27_cx) rfl rfl (Fns_assoc ⟨job_Times_ok, b27, trivial⟩) (n := 60) (lp_ok) (enters Tryz.func27 (by kernel_rfl) rfl) (fun y => ⟨_, rfl⟩) fun x y h => Eq.mpr (q27_t _ _ _ _ _ _ _ _ _ _ _ _ _ y) (q27_r _ _ _ _ _ _ _ _ _ _ _ _ _ y h)
def e27 : Nat × Ent := (27, .fx A27 B27 r27)
noncomputable def c15 : Nat × Ent := (15, .body Tryz.f15)
theorem b15 {c : Cx} : EntOk Tryz.prog c 15 (.body Tryz.f15) := body_ent Tryz.func15 (by kernel_rfl) (by kernel_rfl)
abbrev A15 : RT := (.one .none)
abbrev B15 : RT := .bool
noncomputable def q15_cx : Cx := ⟨tyT, [c15, e17, e20, e22, e26, e27], gsT, eqT, false⟩
def curfewlaw10_wakes_F (i : Ip) (y : Bool) : Prop :=
  (∃ y1 : (Int × Bool × Int × Int × Int × Int × Int × Int × Int × Int × Int) × Int, (job_Of_R 7 (⟨#[64, 104, 111, 117, 114, 108, 121]⟩ : ByteArray) 0 0 1 3 y1) ∧ (∃ y2 : (Int × Bool × Int × Int × Int × Int × Int × Int × Int × Int × Int) × Int, (job_Of_R 7 (⟨#[]⟩ : ByteArray) 90 0 0 0 y2) ∧ (∃ y3 : List Int × Int, (job_Times_R (y1.1.1) (y1.1.2.1) (y1.1.2.2.1) (y1.1.2.2.2.1) (y1.1.2.2.2.2.1) (y1.1.2.2.2.2.2.1) (y1.1.2.2.2.2.2.2.1) (y1.1.2.2.2.2.2.2.2.1) (y1.1.2.2.2.2.2.2.2.2.1) (y1.1.2.2.2.2.2.2.2.2.2.1) (y1.1.2.2.2.2.2.2.2.2.2.2) 0 7200 9 y3) ∧ (i.cp (List.length (y3.1)) fun c4 hc4 => (∃ y5 : Int × Bool, (job_First_R (y2.1.1) (y2.1.2.1) (y2.1.2.2.1) (y2.1.2.2.2.1) (y2.1.2.2.2.2.1) (y2.1.2.2.2.2.2.1) (y2.1.2.2.2.2.2.2.1) (y2.1.2.2.2.2.2.2.2.1) (y2.1.2.2.2.2.2.2.2.2.1) (y2.1.2.2.2.2.2.2.2.2.2.1) (y2.1.2.2.2.2.2.2.2.2.2.2) 89 y5) ∧ (∃ y6 : (Int × Bool × Int × Int × Int × Int × Int × Int × Int × Int × Int) × Int, (job_Of_R 7 (⟨#[48, 32, 48, 32, 51, 49, 32, 50, 32, 42]⟩ : ByteArray) 0 0 0 0 y6) ∧ (br ((y1.2) == 0) (br ((y2.2) == 0) (br ((y3.2) == 0) (br ((y6.2) == 201) (br (y5.2) (br ((y5.1) == 90) (br (!(y1.1.2.1)) (br (y2.1.2.1) (i.tr ((Nat.beq (List.length (y3.1)) (List.length (y3.1))) && true) (band (Nat.beq_refl _) rfl) (∃ y7 : Bool, (slices_Equal__int64_int64_R (y3.1) [3600, 7200] y7) ∧ (br y7 (∃ y8 : Bool, (job_Idle_R (y1.1.1) (y1.1.2.1) (y1.1.2.2.1) (y1.1.2.2.2.1) (y1.1.2.2.2.2.1) (y1.1.2.2.2.2.2.1) (y1.1.2.2.2.2.2.2.1) (y1.1.2.2.2.2.2.2.2.1) (y1.1.2.2.2.2.2.2.2.2.1) (y1.1.2.2.2.2.2.2.2.2.2.1) (y1.1.2.2.2.2.2.2.2.2.2.2) 0 3599 y8) ∧ (y8 = y)) (false = y)))) (false = y)) (false = y)) (false = y)) (false = y)) (false = y)) (false = y)) (false = y)) (false = y))))))))
def curfewlaw10_wakes_R (y : Bool) : Prop :=
  (∃ y1 : (Int × Bool × Int × Int × Int × Int × Int × Int × Int × Int × Int) × Int, (job_Of_R 7 (⟨#[64, 104, 111, 117, 114, 108, 121]⟩ : ByteArray) 0 0 1 3 y1) ∧ (∃ y2 : (Int × Bool × Int × Int × Int × Int × Int × Int × Int × Int × Int) × Int, (job_Of_R 7 (⟨#[]⟩ : ByteArray) 90 0 0 0 y2) ∧ (∃ y3 : List Int × Int, (job_Times_R (y1.1.1) (y1.1.2.1) (y1.1.2.2.1) (y1.1.2.2.2.1) (y1.1.2.2.2.2.1) (y1.1.2.2.2.2.2.1) (y1.1.2.2.2.2.2.2.1) (y1.1.2.2.2.2.2.2.2.1) (y1.1.2.2.2.2.2.2.2.2.1) (y1.1.2.2.2.2.2.2.2.2.2.1) (y1.1.2.2.2.2.2.2.2.2.2.2) 0 7200 9 y3) ∧ (∃ y5 : Int × Bool, (job_First_R (y2.1.1) (y2.1.2.1) (y2.1.2.2.1) (y2.1.2.2.2.1) (y2.1.2.2.2.2.1) (y2.1.2.2.2.2.2.1) (y2.1.2.2.2.2.2.2.1) (y2.1.2.2.2.2.2.2.2.1) (y2.1.2.2.2.2.2.2.2.2.1) (y2.1.2.2.2.2.2.2.2.2.2.1) (y2.1.2.2.2.2.2.2.2.2.2.2) 89 y5) ∧ (∃ y6 : (Int × Bool × Int × Int × Int × Int × Int × Int × Int × Int × Int) × Int, (job_Of_R 7 (⟨#[48, 32, 48, 32, 51, 49, 32, 50, 32, 42]⟩ : ByteArray) 0 0 0 0 y6) ∧ (br ((y1.2) == 0) (br ((y2.2) == 0) (br ((y3.2) == 0) (br ((y6.2) == 201) (br (y5.2) (br ((y5.1) == 90) (br (!(y1.1.2.1)) (br (y2.1.2.1) (∃ y7 : Bool, (slices_Equal__int64_int64_R (y3.1) [3600, 7200] y7) ∧ (br y7 (∃ y8 : Bool, (job_Idle_R (y1.1.1) (y1.1.2.1) (y1.1.2.2.1) (y1.1.2.2.2.1) (y1.1.2.2.2.2.1) (y1.1.2.2.2.2.2.1) (y1.1.2.2.2.2.2.2.1) (y1.1.2.2.2.2.2.2.2.1) (y1.1.2.2.2.2.2.2.2.2.1) (y1.1.2.2.2.2.2.2.2.2.2.1) (y1.1.2.2.2.2.2.2.2.2.2.2) 0 3599 y8) ∧ (y8 = y)) (false = y))) (false = y)) (false = y)) (false = y)) (false = y)) (false = y)) (false = y)) (false = y)) (false = y)))))))
theorem q15_t (y : Bool) : acall q15_cx okT lpT 60 (.fn 15 [] []) [] [] (leafK B15 y) = curfewlaw10_wakes_F ipT y := by kernel_rfl
theorem q15_r (y : Bool) : curfewlaw10_wakes_R y → curfewlaw10_wakes_F ipT y := by
  unfold curfewlaw10_wakes_R curfewlaw10_wakes_F
  refine MI.run ?_
  repeat' (first | intro _ | with_reducible constructor)
abbrev r15 (x : A15.den) (y : B15.den) : Prop := curfewlaw10_wakes_R y
theorem curfewlaw10_wakes_ok : FxOk Tryz.prog gsT 15 A15 B15 r15 := fo (c := q15_cx) rfl rfl (Fns_assoc ⟨b15, job_Of_ok, job_First_ok, job_Times_ok, slices_Equal__int64_int64_ok, job_Idle_ok, trivial⟩) (n := 60) (lp_ok) (enters Tryz.func15 (by kernel_rfl) rfl) (fun y => ⟨_, rfl⟩) fun x y h => Eq.mpr (q15_t y) (q15_r y h)
def e15 : Nat × Ent := (15, .fx A15 B15 r15)
noncomputable def c110 : Nat × Ent := (110, .body Tryz.f110)
theorem b110 {c : Cx} : EntOk Tryz.prog c 110 (.body Tryz.f110) := body_ent Tryz.func110 (by kernel_rfl) (by kernel_rfl)
abbrev A110 : RT := (.one (.agg (.cons (.int .u64) (.cons (.int .u64) (.cons (.int .u64) (.cons (.int .u64) (.one (.int .u64))))))))
abbrev B110 : RT := (.agg (.cons (.int .u64) (.cons (.int .u64) (.cons (.int .u64) (.cons (.int .u64) (.one (.int .u64)))))))
noncomputable def q110_cx : Cx := ⟨tyT, [c110], gsT, eqT, false⟩
def curfewref07_Fields_R (a0 a1 a2 a3 a4 : Int) (y : Int × Int × Int × Int × Int) : Prop :=
  ((a0, (a1, (a2, (a3, a4)))) = y)
theorem q110_t (a0 a1 a2 a3 a4 : Int) (y : Int × Int × Int × Int × Int) : acall q110_cx okT lpT 60 (.fn 110 [] []) [(V.agg [(vu a0), (vu a1), (vu a2), (vu a3), (vu a4)])] [] (leafK B110 y) = curfewref07_Fields_R a0 a1 a2 a3 a4 y := by kernel_rfl
abbrev r110 (x : A110.den) (y : B110.den) : Prop := curfewref07_Fields_R (x.1) (x.2.1) (x.2.2.1) (x.2.2.2.1) (x.2.2.2.2) y
theorem curfewref07_Fields_ok : FxOk Tryz.prog gsT 110 A110 B110 r110 := fo (c := q110_cx) rfl rfl (Fns_assoc ⟨b110, trivial⟩) (n := 60) (lp_ok) (enters Tryz.func110 (by kernel_rfl) rfl) (fun y => ⟨_, rfl⟩) fun x y h => Eq.mpr (q110_t _ _ _ _ _ y) h
def e110 : Nat × Ent := (110, .fx A110 B110 r110)
noncomputable def c183 : Nat × Ent := (183, .body Tryz.f183)
theorem b183 {c : Cx} : EntOk Tryz.prog c 183 (.body Tryz.f183) := body_ent Tryz.func183 (by kernel_rfl) (by kernel_rfl)
abbrev A183 : RT := (.one (.int .i64))
abbrev B183 : RT := (.int .u64)
noncomputable def q183_cx : Cx := ⟨tyT, [c183], gsT, eqT, false⟩
noncomputable def q183_0_body : Code := subC [1, 1, 0, 1, 0, 0] (bodyOf Tryz.f183)
abbrev curfewref01_power_l0_Z : Type := Int × Int × Int
abbrev curfewref01_power_l0_Y : Type := Int
noncomputable def q183_0_k : LK := ⟨0, ⟨[(3, .w 0), (4, .w 1), (5, .w 2)], [], []⟩, [.int .u64, .int .i64, .int .i64], [], [], [], [⟨(.exit 0), ⟨[(3, .w 0)], [], []⟩, [.int .u64], [], none⟩]⟩
def curfewref01_power_l0 : Nat → curfewref01_power_l0_Z → curfewref01_power_l0_Y → Prop
  | 0, _, _ => False
  | k + 1, (z1x0, z1x1, z1x2), y2_ => (br (decide (z1x2 < z1x1)) (curfewref01_power_l0 k ((IntKind.wrap .u64 (z1x0 * 2)), z1x1, (IntKind.wrap .i64 (z1x2 + 1))) y2_) (z1x0 = y2_))
def curfewref01_power_l0_L (z : curfewref01_power_l0_Z) (y : curfewref01_power_l0_Y) : Prop := ∃ k, curfewref01_power_l0 k z y
noncomputable def q183_0_lp : Lp := .auto none q183_0_body (loopK q183_0_k fun z y => ∃ k, curfewref01_power_l0 k z y)
noncomputable def q183_lp : Nat → FuncId → Nat → Nat → Lp := lpTab [(183, 3, 0, 0, q183_0_lp)]
theorem q183_0_t (n k : Nat) (z1x0 z1x1 z1x2 : Int) (y2_ : curfewref01_power_l0_Y) : rnd q183_cx okT q183_lp (n + 0) 183 none q183_0_body q183_0_k (curfewref01_power_l0 k) (z1x0, z1x1, z1x2) () () y2_ = curfewref01_power_l0 (k + 1) (z1x0, z1x1, z1x2) y2_ := by kernel_rfl
theorem q183_0_ok (n : Nat) : Owed q183_cx okT 183 q183_lp (n + 0) q183_0_lp := owed_rnd (lk := q183_0_k) (l := curfewref01_power_l0) (fun z y h => h) fun k z q c y h => Eq.mpr (q183_0_t n k z.1 z.2.1 z.2.2 y) h
def curfewref01_power_F (i : Ip) (a0 : Int) (y : Int) : Prop :=
  (i.lo none q183_0_body (∃ y4 : curfewref01_power_l0_Y, curfewref01_power_l0_L (1, a0, 0) y4 ∧ (y4 = y)))
def curfewref01_power_R (a0 : Int) (y : Int) : Prop :=
  (∃ y4 : curfewref01_power_l0_Y, curfewref01_power_l0_L (1, a0, 0) y4 ∧ (y4 = y))
theorem q183_t (a0 : Int) (y : Int) : acall q183_cx okT q183_lp 60 (.fn 183 [] []) [(vi a0)] [] (leafK B183 y) = curfewref01_power_F ipT a0 y := by kernel_rfl
theorem q183_r (a0 : Int) (y : Int) : curfewref01_power_R a0 y → curfewref01_power_F ipT a0 y := by
  unfold curfewref01_power_R curfewref01_power_F
  refine MI.run ?_
  repeat' (first | intro _ | with_reducible constructor)
abbrev r183 (x : A183.den) (y : B183.den) : Prop := curfewref01_power_R x y
theorem curfewref01_power_ok : FxOk Tryz.prog gsT 183 A183 B183 r183 := fo (c := q183_cx) rfl rfl (Fns_assoc ⟨b183, trivial⟩) (lp := q183_lp) (n := 60) (LpOk_tab ⟨q183_0_ok, trivial⟩) (enters Tryz.func183 (by kernel_rfl) rfl) (fun y => ⟨_, rfl⟩) fun x y h => Eq.mpr (q183_t _ y) (q183_r _ y h)
def e183 : Nat × Ent := (183, .fx A183 B183 r183)
noncomputable def c116 : Nat × Ent := (116, .body Tryz.f116)
theorem b116 {c : Cx} : EntOk Tryz.prog c 116 (.body Tryz.f116) := body_ent Tryz.func116 (by kernel_rfl) (by kernel_rfl)
abbrev A116 : RT := (.cons (.int .u64) (.one (.int .i64)))
abbrev B116 : RT := .bool
noncomputable def q116_cx : Cx := ⟨tyT, [c116, e183], gsT, eqT, false⟩
def curfewref01_Has_F (i : Ip) (a0 a1 : Int) (y : Bool) : Prop :=
  (br (decide (a1 ≥ 0)) (br (decide (a1 ≤ 63)) (∃ y1 : Int, (curfewref01_power_R a1 y1) ∧ (i.rq (!(y1 == 0)) (((Int.tmod (IntKind.wrap .u64 (Int.tdiv a0 y1)) 2) == 1) = y))) (false = y)) (false = y))
def curfewref01_Has_R (a0 a1 : Int) (y : Bool) : Prop :=
  (br (decide (a1 ≥ 0)) (br (decide (a1 ≤ 63)) (∃ y1 : Int, (curfewref01_power_R a1 y1) ∧ (req (!(y1 == 0)) (((Int.tmod (IntKind.wrap .u64 (Int.tdiv a0 y1)) 2) == 1) = y))) (false = y)) (false = y))
theorem q116_t (a0 a1 : Int) (y : Bool) : acall q116_cx okT lpT 60 (.fn 116 [] []) [(vu a0), (vi a1)] [] (leafK B116 y) = curfewref01_Has_F ipT a0 a1 y := by kernel_rfl
theorem q116_r (a0 a1 : Int) (y : Bool) : curfewref01_Has_R a0 a1 y → curfewref01_Has_F ipT a0 a1 y := by
  unfold curfewref01_Has_R curfewref01_Has_F
  refine MI.run ?_
  repeat' (first | intro _ | with_reducible constructor)
abbrev r116 (x : A116.den) (y : B116.den) : Prop := curfewref01_Has_R (x.1) (x.2) y
theorem curfewref01_Has_ok : FxOk Tryz.prog gsT 116 A116 B116 r116 := fo (c := q116_cx) rfl rfl (Fns_assoc ⟨b116, curfewref01_power_ok, trivial⟩) (n := 60) (lp_ok) (enters Tryz.func116 (by kernel_rfl) rfl) (fun y => ⟨_, rfl⟩) fun x y h => Eq.mpr (q116_t _ _ y) (q116_r _ _ y h)
def e116 : Nat × Ent := (116, .fx A116 B116 r116)
noncomputable def c119 : Nat × Ent := (119, .body Tryz.f119)
theorem b119 {c : Cx} : EntOk Tryz.prog c 119 (.body Tryz.f119) := body_ent Tryz.func119 (by kernel_rfl) (by kernel_rfl)
abbrev A119 : RT := (.one (.int .u64))
abbrev B119 : RT := (.nw (.int .i64) 3)
noncomputable def q119_cx : Cx := ⟨tyT, [e116, c119], gsT, eqT, false⟩
noncomputable def q119_0_body : Code := subC [1, 1, 0, 1, 0, 0] (bodyOf Tryz.f119)
abbrev curfewref01_All_l0_Z : Type := List Int × Int × Int
abbrev curfewref01_All_l0_Y : Type := List Int
noncomputable def q119_0_k : LK := ⟨0, ⟨[(0, .w 1), (3, .row 0 1 (.z 0) (.c 0)), (5, .w 2)], [.row (.int .i64) (.z 0) 3 (.c 0)], []⟩, [.sl (.int .i64), .int .u64, .int .i64], [], [.nat], [], [⟨(.exit 0), ⟨[(3, .row 0 1 (.z 0) (.c 0))], [.row (.int .i64) (.z 0) 3 (.c 0)], []⟩, [.sl (.int .i64)], [.nat], none⟩]⟩
def curfewref01_All_l0_F (i : Ip) (l : curfewref01_All_l0_Z → curfewref01_All_l0_Y → Prop) (z1x0 : List Int) (z1x1 z1x2 : Int) (z1k0 : Nat) (y2_ : curfewref01_All_l0_Y) : Prop :=
  (br (decide (z1x2 < 64)) (∃ y3 : Bool, (curfewref01_Has_R z1x1 z1x2 y3) ∧ (br y3 (i.r2 (Nat.ble ((List.length (z1x0 ++ [z1x2])) * 9) 140737488355328) (((((true && true) && true) && (Nat.beq (List.length z1x0) (List.length z1x0))) && (Nat.beq z1k0 z1k0)) && (Nat.ble ((List.length (z1x0 ++ [z1x2])) * 9) 140737488355328)) (fun q => (band (band (band (band (band rfl rfl) rfl) (Nat.beq_refl _)) (Nat.beq_refl _)) q)) (i.cp (List.length (z1x0 ++ [z1x2])) fun c4 hc4 => (i.te [(V.row 0 1 (List.length (z1x0 ++ [z1x2])) c4)] [] (l ((z1x0 ++ [z1x2]), z1x1, (IntKind.wrap .i64 (z1x2 + 1))) y2_)))) (i.te [(V.row 0 1 (List.length z1x0) z1k0)] [] (l (z1x0, z1x1, (IntKind.wrap .i64 (z1x2 + 1))) y2_)))) (i.te [(V.row 0 1 (List.length z1x0) z1k0)] [] (z1x0 = y2_)))
def curfewref01_All_l0 : Nat → curfewref01_All_l0_Z → curfewref01_All_l0_Y → Prop
  | 0, _, _ => False
  | k + 1, (z1x0, z1x1, z1x2), y2_ => (br (decide (z1x2 < 64)) (∃ y3 : Bool, (curfewref01_Has_R z1x1 z1x2 y3) ∧ (br y3 (req (Nat.ble ((List.length (z1x0 ++ [z1x2])) * 9) 140737488355328) (curfewref01_All_l0 k ((z1x0 ++ [z1x2]), z1x1, (IntKind.wrap .i64 (z1x2 + 1))) y2_)) (curfewref01_All_l0 k (z1x0, z1x1, (IntKind.wrap .i64 (z1x2 + 1))) y2_))) (z1x0 = y2_))
def curfewref01_All_l0_L (z : curfewref01_All_l0_Z) (y : curfewref01_All_l0_Y) : Prop := ∃ k, curfewref01_All_l0 k z y
noncomputable def q119_0_lp : Lp := .auto none q119_0_body (loopK q119_0_k fun z y => ∃ k, curfewref01_All_l0 k z y)
noncomputable def q119_lp : Nat → FuncId → Nat → Nat → Lp := lpTab [(119, 3, 0, 1, q119_0_lp)]
theorem q119_0_t (n k : Nat) (z1x0 : List Int) (z1x1 z1x2 : Int) (z1k0 : Nat) (y2_ : curfewref01_All_l0_Y) : rnd q119_cx okT q119_lp (n + 1) 119 none q119_0_body q119_0_k (curfewref01_All_l0 k) (z1x0, z1x1, z1x2) () z1k0 y2_ = curfewref01_All_l0_F ipT (fun z y => curfewref01_All_l0 k z y) z1x0 z1x1 z1x2 z1k0 y2_ := by kernel_rfl
theorem q119_0_r (k : Nat) (z1x0 : List Int) (z1x1 z1x2 : Int) (z1k0 : Nat) (y2_ : curfewref01_All_l0_Y) : curfewref01_All_l0 (k + 1) (z1x0, z1x1, z1x2) y2_ → curfewref01_All_l0_F ipT (fun z y => curfewref01_All_l0 k z y) z1x0 z1x1 z1x2 z1k0 y2_ := by
  unfold curfewref01_All_l0_F
  intro h; simp only [curfewref01_All_l0] at h; revert h
  refine MI.run ?_
  repeat' (first | intro _ | with_reducible constructor)
theorem q119_0_ok (n : Nat) : Owed q119_cx okT 119 q119_lp (n + 1) q119_0_lp := owed_rnd (lk := q119_0_k) (l := curfewref01_All_l0) (fun z y h => h) fun k z q c y h => Eq.mpr (q119_0_t n k z.1 z.2.1 z.2.2 c y) (q119_0_r k z.1 z.2.1 z.2.2 c y h)
def curfewref01_All_F (i : Ip) (a0 : Int) (y : List Int) : Prop :=
  (i.lo none q119_0_body (i.te [(V.row 0 1 0 0)] [] (∃ y6 : curfewref01_All_l0_Y, curfewref01_All_l0_L ([], a0, 0) y6 ∧ (i.cq [.nat] fun y6c => (i.tr (true && ((Nat.beq (List.length y6) (List.length y6)) && (Nat.beq y6c y6c))) (band rfl (band (Nat.beq_refl _) (Nat.beq_refl _))) (y6 = y))))))
def curfewref01_All_R (a0 : Int) (y : List Int) : Prop :=
  (∃ y6 : curfewref01_All_l0_Y, curfewref01_All_l0_L ([], a0, 0) y6 ∧ (y6 = y))
theorem q119_t (a0 : Int) (y : List Int) : acall q119_cx okT q119_lp 60 (.fn 119 [] []) [(vu a0)] [] (leafK B119 y) = curfewref01_All_F ipT a0 y := by kernel_rfl
theorem q119_r (a0 : Int) (y : List Int) : curfewref01_All_R a0 y → curfewref01_All_F ipT a0 y := by
  unfold curfewref01_All_R curfewref01_All_F
  refine MI.run ?_
  repeat' (first | intro _ | with_reducible constructor)
abbrev r119 (x : A119.den) (y : B119.den) : Prop := curfewref01_All_R x y
theorem curfewref01_All_ok : FxOk Tryz.prog gsT 119 A119 B119 r119 := fo (c := q119_cx) rfl rfl (Fns_assoc ⟨curfewref01_Has_ok, b119, trivial⟩) (lp := q119_lp) (n := 60) (LpOk_tab ⟨q119_0_ok, trivial⟩) (enters Tryz.func119 (by kernel_rfl) rfl) (fun y => ⟨_, rfl⟩) fun x y h => Eq.mpr (q119_t _ y) (q119_r _ y h)
def e119 : Nat × Ent := (119, .fx A119 B119 r119)
noncomputable def c222 : Nat × Ent := (222, .body Tryz.f222)
theorem b222 {c : Cx} : EntOk Tryz.prog c 222 (.body Tryz.f222) := body_ent Tryz.func222 (by kernel_rfl) (by kernel_rfl)
abbrev A222 : RT := (.one (.sl (.int .i64)))
abbrev B222 : RT := (.tup (.cons (.int .u64) (.one .bool)))
noncomputable def q222_cx : Cx := ⟨tyT, [e116, e183, c222], gsT, eqT, false⟩
noncomputable def q222_0_body : Code := subC [1, 1, 0, 1, 0, 0] (bodyOf Tryz.f222)
abbrev curfewref01_Of_l0_Z : Type := Int × List Int × Int × Int
abbrev curfewref01_Of_l0_Y : Type := (Unit) ⊕ (Int)
noncomputable def q222_0_k : LK := ⟨0, ⟨[(4, .w 0), (7, .sl (.int .i64) 1), (8, .w 2), (9, .w 3)], [], []⟩, [.int .u64, .sl (.int .i64), .int .i64, .int .i64], [], [], [], [⟨.ret, ⟨[(2, .li .u64 0), (3, .lb false)], [], []⟩, [], [], none⟩, ⟨(.exit 0), ⟨[(4, .w 0)], [], []⟩, [.int .u64], [], none⟩]⟩
def curfewref01_Of_l0_F (i : Ip) (l : curfewref01_Of_l0_Z → curfewref01_Of_l0_Y → Prop) (z1x0 : Int) (z1x1 : List Int) (z1x2 z1x3 : Int) (y2_ : curfewref01_Of_l0_Y) : Prop :=
  (br (decide (z1x3 < z1x2)) (i.rq ((decide (0 ≤ z1x3)) && (decide (z1x3 < (((List.length z1x1) : Nat) : Int)))) (br (decide ((List.getD z1x1 (Int.toNat z1x3) 0) < 0)) ((Sum.inl ()) = y2_) (br (decide ((List.getD z1x1 (Int.toNat z1x3) 0) > 63)) ((Sum.inl ()) = y2_) (∃ y3 : Bool, (curfewref01_Has_R z1x0 (List.getD z1x1 (Int.toNat z1x3) 0) y3) ∧ (br (!y3) (∃ y4 : Int, (curfewref01_power_R (List.getD z1x1 (Int.toNat z1x3) 0) y4) ∧ (l ((IntKind.wrap .u64 (z1x0 + y4)), z1x1, z1x2, (IntKind.wrap .i64 (z1x3 + 1))) y2_)) (l (z1x0, z1x1, z1x2, (IntKind.wrap .i64 (z1x3 + 1))) y2_)))))) ((Sum.inr z1x0) = y2_))
def curfewref01_Of_l0 : Nat → curfewref01_Of_l0_Z → curfewref01_Of_l0_Y → Prop
  | 0, _, _ => False
  | k + 1, (z1x0, z1x1, z1x2, z1x3), y2_ => (br (decide (z1x3 < z1x2)) (req ((decide (0 ≤ z1x3)) && (decide (z1x3 < (((List.length z1x1) : Nat) : Int)))) (br (decide ((List.getD z1x1 (Int.toNat z1x3) 0) < 0)) ((Sum.inl ()) = y2_) (br (decide ((List.getD z1x1 (Int.toNat z1x3) 0) > 63)) ((Sum.inl ()) = y2_) (∃ y3 : Bool, (curfewref01_Has_R z1x0 (List.getD z1x1 (Int.toNat z1x3) 0) y3) ∧ (br (!y3) (∃ y4 : Int, (curfewref01_power_R (List.getD z1x1 (Int.toNat z1x3) 0) y4) ∧ (curfewref01_Of_l0 k ((IntKind.wrap .u64 (z1x0 + y4)), z1x1, z1x2, (IntKind.wrap .i64 (z1x3 + 1))) y2_)) (curfewref01_Of_l0 k (z1x0, z1x1, z1x2, (IntKind.wrap .i64 (z1x3 + 1))) y2_)))))) ((Sum.inr z1x0) = y2_))
def curfewref01_Of_l0_L (z : curfewref01_Of_l0_Z) (y : curfewref01_Of_l0_Y) : Prop := ∃ k, curfewref01_Of_l0 k z y
noncomputable def q222_0_lp : Lp := .auto none q222_0_body (loopK q222_0_k fun z y => ∃ k, curfewref01_Of_l0 k z y)
noncomputable def q222_lp : Nat → FuncId → Nat → Nat → Lp := lpTab [(222, 3, 0, 1, q222_0_lp)]
theorem q222_0_t (n k : Nat) (z1x0 : Int) (z1x1 : List Int) (z1x2 z1x3 : Int) (y2_ : curfewref01_Of_l0_Y) : rnd q222_cx okT q222_lp (n + 1) 222 none q222_0_body q222_0_k (curfewref01_Of_l0 k) (z1x0, z1x1, z1x2, z1x3) () () y2_ = curfewref01_Of_l0_F ipT (fun z y => curfewref01_Of_l0 k z y) z1x0 z1x1 z1x2 z1x3 y2_ := by kernel_rfl
theorem q222_0_r (k : Nat) (z1x0 : Int) (z1x1 : List Int) (z1x2 z1x3 : Int) (y2_ : curfewref01_Of_l0_Y) : curfewref01_Of_l0 (k + 1) (z1x0, z1x1, z1x2, z1x3) y2_ → curfewref01_Of_l0_F ipT (fun z y => curfewref01_Of_l0 k z y) z1x0 z1x1 z1x2 z1x3 y2_ := by
  unfold curfewref01_Of_l0_F
  intro h; simp only [curfewref01_Of_l0] at h; revert h
  refine MI.run ?_
  repeat' (first | intro _ | with_reducible constructor)
theorem q222_0_ok (n : Nat) : Owed q222_cx okT 222 q222_lp (n + 1) q222_0_lp := owed_rnd (lk := q222_0_k) (l := curfewref01_Of_l0) (fun z y h => h) fun k z q c y h => Eq.mpr (q222_0_t n k z.1 z.2.1 z.2.2.1 z.2.2.2 y) (q222_0_r k z.1 z.2.1 z.2.2.1 z.2.2.2 y h)
def curfewref01_Of_F (i : Ip) (a0 : List Int) (y : Int × Bool) : Prop :=
  (i.lo none q222_0_body (∃ y6 : curfewref01_Of_l0_Y, curfewref01_Of_l0_L (0, a0, (((List.length a0) : Nat) : Int), 0) y6 ∧ sume (fun y6 => ((0, false) = y)) (fun y6 => ((y6, true) = y)) y6))
def curfewref01_Of_R (a0 : List Int) (y : Int × Bool) : Prop :=
  (∃ y6 : curfewref01_Of_l0_Y, curfewref01_Of_l0_L (0, a0, (((List.length a0) : Nat) : Int), 0) y6 ∧ sume (fun y6 => ((0, false) = y)) (fun y6 => ((y6, true) = y)) y6)
theorem q222_t (a0 : List Int) (y : Int × Bool) : acall q222_cx okT q222_lp 60 (.fn 222 [] []) [(V.sl (.int .i64) a0 none)] [] (leafK B222 y) = curfewref01_Of_F ipT a0 y := by kernel_rfl
theorem q222_r (a0 : List Int) (y : Int × Bool) : curfewref01_Of_R a0 y → curfewref01_Of_F ipT a0 y := by
  unfold curfewref01_Of_R curfewref01_Of_F
  refine MI.run ?_
  repeat' (first | intro _ | with_reducible constructor)
abbrev r222 (x : A222.den) (y : B222.den) : Prop := curfewref01_Of_R x y
theorem curfewref01_Of_ok : FxOk Tryz.prog gsT 222 A222 B222 r222 := fo (c := q222_cx) rfl rfl (Fns_assoc ⟨curfewref01_Has_ok, curfewref01_power_ok, b222, trivial⟩) (lp := q222_lp) (n := 60) (LpOk_tab ⟨q222_0_ok, trivial⟩) (enters Tryz.func222 (by kernel_rfl) rfl) (fun y => ⟨_, rfl⟩) fun x y h => Eq.mpr (q222_t _ y) (q222_r _ y h)
def e222 : Nat × Ent := (222, .fx A222 B222 r222)
noncomputable def c175 : Nat × Ent := (175, .body Tryz.f175)
theorem b175 {c : Cx} : EntOk Tryz.prog c 175 (.body Tryz.f175) := body_ent Tryz.func175 (by kernel_rfl) (by kernel_rfl)
abbrev A175 : RT := (.cons (.int .i64) (.cons (.int .i64) (.one (.int .i64))))
abbrev B175 : RT := (.tup (.cons (.int .u64) (.one .bool)))
noncomputable def q175_cx : Cx := ⟨tyT, [c175, e222], gsT, eqT, false⟩
noncomputable def q175_0_body : Code := subC [1, 1, 1, 0, 1, 0, 0] (bodyOf Tryz.f175)
abbrev curfewref01_Span_l0_Z : Type := List Int × Int × Int × Int × Int
abbrev curfewref01_Span_l0_Y : Type := List Int
noncomputable def q175_0_k : LK := ⟨0, ⟨[(0, .w 1), (1, .w 2), (2, .w 3), (8, .row 0 1 (.z 0) (.c 0)), (9, .w 4)], [.row (.int .i64) (.z 0) 3 (.c 0)], []⟩, [.sl (.int .i64), .int .i64, .int .i64, .int .i64, .int .i64], [], [.nat], [], [⟨(.exit 0), ⟨[(8, .row 0 1 (.z 0) (.c 0))], [.row (.int .i64) (.z 0) 3 (.c 0)], []⟩, [.sl (.int .i64)], [.nat], none⟩]⟩
def curfewref01_Span_l0_F (i : Ip) (l : curfewref01_Span_l0_Z → curfewref01_Span_l0_Y → Prop) (z1x0 : List Int) (z1x1 z1x2 z1x3 z1x4 : Int) (z1k0 : Nat) (y2_ : curfewref01_Span_l0_Y) : Prop :=
  (br (decide (z1x4 ≤ z1x2)) (i.rq (!(z1x3 == 0)) (br ((Int.tmod (IntKind.wrap .i64 (z1x4 - z1x1)) z1x3) == 0) (i.r2 (Nat.ble ((List.length (z1x0 ++ [z1x4])) * 9) 140737488355328) (((((true && true) && true) && (Nat.beq (List.length z1x0) (List.length z1x0))) && (Nat.beq z1k0 z1k0)) && (Nat.ble ((List.length (z1x0 ++ [z1x4])) * 9) 140737488355328)) (fun q => (band (band (band (band (band rfl rfl) rfl) (Nat.beq_refl _)) (Nat.beq_refl _)) q)) (i.cp (List.length (z1x0 ++ [z1x4])) fun c3 hc3 => (i.te [(V.row 0 1 (List.length (z1x0 ++ [z1x4])) c3)] [] (l ((z1x0 ++ [z1x4]), z1x1, z1x2, z1x3, (IntKind.wrap .i64 (z1x4 + 1))) y2_)))) (i.te [(V.row 0 1 (List.length z1x0) z1k0)] [] (l (z1x0, z1x1, z1x2, z1x3, (IntKind.wrap .i64 (z1x4 + 1))) y2_)))) (i.te [(V.row 0 1 (List.length z1x0) z1k0)] [] (z1x0 = y2_)))
def curfewref01_Span_l0 : Nat → curfewref01_Span_l0_Z → curfewref01_Span_l0_Y → Prop
  | 0, _, _ => False
  | k + 1, (z1x0, z1x1, z1x2, z1x3, z1x4), y2_ => (br (decide (z1x4 ≤ z1x2)) (req (!(z1x3 == 0)) (br ((Int.tmod (IntKind.wrap .i64 (z1x4 - z1x1)) z1x3) == 0) (req (Nat.ble ((List.length (z1x0 ++ [z1x4])) * 9) 140737488355328) (curfewref01_Span_l0 k ((z1x0 ++ [z1x4]), z1x1, z1x2, z1x3, (IntKind.wrap .i64 (z1x4 + 1))) y2_)) (curfewref01_Span_l0 k (z1x0, z1x1, z1x2, z1x3, (IntKind.wrap .i64 (z1x4 + 1))) y2_))) (z1x0 = y2_))
def curfewref01_Span_l0_L (z : curfewref01_Span_l0_Z) (y : curfewref01_Span_l0_Y) : Prop := ∃ k, curfewref01_Span_l0 k z y
noncomputable def q175_0_lp : Lp := .auto none q175_0_body (loopK q175_0_k fun z y => ∃ k, curfewref01_Span_l0 k z y)
noncomputable def q175_lp : Nat → FuncId → Nat → Nat → Lp := lpTab [(175, 5, 0, 0, q175_0_lp)]
theorem q175_0_t (n k : Nat) (z1x0 : List Int) (z1x1 z1x2 z1x3 z1x4 : Int) (z1k0 : Nat) (y2_ : curfewref01_Span_l0_Y) : rnd q175_cx okT q175_lp (n + 0) 175 none q175_0_body q175_0_k (curfewref01_Span_l0 k) (z1x0, z1x1, z1x2, z1x3, z1x4) () z1k0 y2_ = curfewref01_Span_l0_F ipT (fun z y => curfewref01_Span_l0 k z y) z1x0 z1x1 z1x2 z1x3 z1x4 z1k0 y2_ := by kernel_rfl
theorem q175_0_r (k : Nat) (z1x0 : List Int) (z1x1 z1x2 z1x3 z1x4 : Int) (z1k0 : Nat) (y2_ : curfewref01_Span_l0_Y) : curfewref01_Span_l0 (k + 1) (z1x0, z1x1, z1x2, z1x3, z1x4) y2_ → curfewref01_Span_l0_F ipT (fun z y => curfewref01_Span_l0 k z y) z1x0 z1x1 z1x2 z1x3 z1x4 z1k0 y2_ := by
  unfold curfewref01_Span_l0_F
  intro h; simp only [curfewref01_Span_l0] at h; revert h
  refine MI.run ?_
  repeat' (first | intro _ | with_reducible constructor)
theorem q175_0_ok (n : Nat) : Owed q175_cx okT 175 q175_lp (n + 0) q175_0_lp := owed_rnd (lk := q175_0_k) (l := curfewref01_Span_l0) (fun z y h => h) fun k z q c y h => Eq.mpr (q175_0_t n k z.1 z.2.1 z.2.2.1 z.2.2.2.1 z.2.2.2.2 c y) (q175_0_r k z.1 z.2.1 z.2.2.1 z.2.2.2.1 z.2.2.2.2 c y h)
def curfewref01_Span_F (i : Ip) (a0 a1 a2 : Int) (y : Int × Bool) : Prop :=
  (br (decide (a0 < 0)) ((0, false) = y) (br (decide (a1 > 63)) ((0, false) = y) (br (decide (a0 > a1)) ((0, false) = y) (br (decide (a2 < 1)) ((0, false) = y) (i.lo none q175_0_body (i.te [(V.row 0 1 0 0)] [] (∃ y5 : curfewref01_Span_l0_Y, curfewref01_Span_l0_L ([], a0, a1, a2, a0) y5 ∧ (i.cq [.nat] fun y5c => (i.tr (Nat.beq (List.length y5) (List.length y5)) (Nat.beq_refl _) (∃ y6 : Int × Bool, (curfewref01_Of_R y5 y6) ∧ (y6 = y)))))))))))
def curfewref01_Span_R (a0 a1 a2 : Int) (y : Int × Bool) : Prop :=
  (br (decide (a0 < 0)) ((0, false) = y) (br (decide (a1 > 63)) ((0, false) = y) (br (decide (a0 > a1)) ((0, false) = y) (br (decide (a2 < 1)) ((0, false) = y) (∃ y5 : curfewref01_Span_l0_Y, curfewref01_Span_l0_L ([], a0, a1, a2, a0) y5 ∧ (∃ y6 : Int × Bool, (curfewref01_Of_R y5 y6) ∧ (y6 = y)))))))
theorem q175_t (a0 a1 a2 : Int) (y : Int × Bool) : acall q175_cx okT q175_lp 60 (.fn 175 [] []) [(vi a0), (vi a1), (vi a2)] [] (leafK B175 y) = curfewref01_Span_F ipT a0 a1 a2 y := by kernel_rfl
theorem q175_r (a0 a1 a2 : Int) (y : Int × Bool) : curfewref01_Span_R a0 a1 a2 y → curfewref01_Span_F ipT a0 a1 a2 y := by
  unfold curfewref01_Span_R curfewref01_Span_F
  refine MI.run ?_
  repeat' (first | intro _ | with_reducible constructor)
abbrev r175 (x : A175.den) (y : B175.den) : Prop := curfewref01_Span_R (x.1) (x.2.1) (x.2.2) y
theorem curfewref01_Span_ok : FxOk Tryz.prog gsT 175 A175 B175 r175 := fo (c := q175_cx) rfl rfl (Fns_assoc ⟨b175, curfewref01_Of_ok, trivial⟩) (lp := q175_lp) (n := 60) (LpOk_tab ⟨q175_0_ok, trivial⟩) (enters Tryz.func175 (by kernel_rfl) rfl) (fun y => ⟨_, rfl⟩) fun x y h => Eq.mpr (q175_t _ _ _ y) (q175_r _ _ _ y h)
def e175 : Nat × Ent := (175, .fx A175 B175 r175)
noncomputable def c176 : Nat × Ent := (176, .body Tryz.f176)
theorem b176 {c : Cx} : EntOk Tryz.prog c 176 (.body Tryz.f176) := body_ent Tryz.func176 (by kernel_rfl) (by kernel_rfl)
abbrev A176 : RT := (.one (.int .i64))
abbrev B176 : RT := (.agg (.cons (.int .i64) (.one (.int .i64))))
noncomputable def q176_cx : Cx := ⟨tyT, [c176], gsT, eqT, false⟩
def curfewref06_Ends_F (i : Ip) (a0 : Int) (y : Int × Int) : Prop :=
  (i.rq (((decide (0 ≤ a0)) && (decide (a0 < 5))) && (Nat.ble (((Int.toNat a0) * 2) + 2) 10)) (((List.getD ([0, 59, 0, 23, 1, 31, 1, 12, 0, 6] : List Int) (((Int.toNat a0) * 2) + 0) 0), (List.getD ([0, 59, 0, 23, 1, 31, 1, 12, 0, 6] : List Int) (((Int.toNat a0) * 2) + 1) 0)) = y))
def curfewref06_Ends_R (a0 : Int) (y : Int × Int) : Prop :=
  (req (((decide (0 ≤ a0)) && (decide (a0 < 5))) && (Nat.ble (((Int.toNat a0) * 2) + 2) 10)) (((List.getD ([0, 59, 0, 23, 1, 31, 1, 12, 0, 6] : List Int) (((Int.toNat a0) * 2) + 0) 0), (List.getD ([0, 59, 0, 23, 1, 31, 1, 12, 0, 6] : List Int) (((Int.toNat a0) * 2) + 1) 0)) = y))
theorem q176_t (a0 : Int) (y : Int × Int) : acall q176_cx okT lpT 60 (.fn 176 [] []) [(vi a0)] [] (leafK B176 y) = curfewref06_Ends_F ipT a0 y := by kernel_rfl
theorem q176_r (a0 : Int) (y : Int × Int) : curfewref06_Ends_R a0 y → curfewref06_Ends_F ipT a0 y := by
  unfold curfewref06_Ends_R curfewref06_Ends_F
  refine MI.run ?_
  repeat' (first | intro _ | with_reducible constructor)
abbrev r176 (x : A176.den) (y : B176.den) : Prop := curfewref06_Ends_R x y
theorem curfewref06_Ends_ok : FxOk Tryz.prog gsT 176 A176 B176 r176 := fo (c := q176_cx) rfl rfl (Fns_assoc ⟨b176, trivial⟩) (n := 60) (lp_ok) (enters Tryz.func176 (by kernel_rfl) rfl) (fun y => ⟨_, rfl⟩) fun x y h => Eq.mpr (q176_t _ y) (q176_r _ y h)
def e176 : Nat × Ent := (176, .fx A176 B176 r176)
noncomputable def c174 : Nat × Ent := (174, .body Tryz.f174)
theorem b174 {c : Cx} : EntOk Tryz.prog c 174 (.body Tryz.f174) := body_ent Tryz.func174 (by kernel_rfl) (by kernel_rfl)
abbrev A174 : RT := (.one (.int .i64))
abbrev B174 : RT := (.int .u64)
noncomputable def q174_cx : Cx := ⟨tyT, [c174, e175, e176], gsT, eqT, false⟩
def curfewref06_Whole_R (a0 : Int) (y : Int) : Prop :=
  (∃ y1 : Int × Int, (curfewref06_Ends_R a0 y1) ∧ (∃ y2 : Int × Int, (curfewref06_Ends_R a0 y2) ∧ (∃ y3 : Int × Bool, (curfewref01_Span_R (y1.1) (y2.2) 1 y3) ∧ ((y3.1) = y))))
theorem q174_t (a0 : Int) (y : Int) : acall q174_cx okT lpT 60 (.fn 174 [] []) [(vi a0)] [] (leafK B174 y) = curfewref06_Whole_R a0 y := by kernel_rfl
abbrev r174 (x : A174.den) (y : B174.den) : Prop := curfewref06_Whole_R x y
theorem curfewref06_Whole_ok : FxOk Tryz.prog gsT 174 A174 B174 r174 := fo (c := q174_cx) rfl rfl (Fns_assoc ⟨b174, curfewref01_Span_ok, curfewref06_Ends_ok, trivial⟩) (n := 60) (lp_ok) (enters Tryz.func174 (by kernel_rfl) rfl) (fun y => ⟨_, rfl⟩) fun x y h => Eq.mpr (q174_t _ y) h
def e174 : Nat × Ent := (174, .fx A174 B174 r174)
noncomputable def c111 : Nat × Ent := (111, .body Tryz.f111)
theorem b111 {c : Cx} : EntOk Tryz.prog c 111 (.body Tryz.f111) := body_ent Tryz.func111 (by kernel_rfl) (by kernel_rfl)
abbrev A111 : RT := (.cons (.int .i64) (.one (.int .u64)))
abbrev B111 : RT := .bool
noncomputable def q111_cx : Cx := ⟨tyT, [c111, e116, e119, e174], gsT, eqT, false⟩
noncomputable def q111_0_body : Code := subC [1, 0, 1, 0, 0] (bodyOf Tryz.f111)
abbrev curfewref06_Right_l0_Z : Type := List Int × Int × Int × Int × Int
abbrev curfewref06_Right_l0_Y : Type := (Unit) ⊕ (Unit)
noncomputable def q111_0_k : LK := ⟨1, ⟨[(0, .w 1), (1, .w 2), (8, .row 0 1 (.z 0) (.q 0)), (9, .w 3), (10, .w 4)], [.row (.int .i64) (.z 0) 3 (.q 0)], []⟩, [.sl (.int .i64), .int .i64, .int .u64, .int .i64, .int .i64], [.nat], [], [2], [⟨.ret, ⟨[(4, .lb false)], [.dead], []⟩, [], [], none⟩, ⟨(.exit 0), ⟨[(1, .e (.p 0))], [.dead], []⟩, [], [], none⟩]⟩
def curfewref06_Right_l0_F (i : Ip) (l : curfewref06_Right_l0_Z → curfewref06_Right_l0_Y → Prop) (z3x0 : List Int) (z3x1 z3x2 z3x3 z3x4 : Int) (z3q0 : Nat) (y4_ : curfewref06_Right_l0_Y) : Prop :=
  (br (decide (z3x4 < z3x3)) (i.rq ((decide (0 ≤ z3x4)) && (decide (z3x4 < (((List.length z3x0) : Nat) : Int)))) (i.rq (Nat.blt (Int.toNat z3x4) (List.length z3x0)) (∃ y5 : Int, (curfewref06_Whole_R z3x1 y5) ∧ (∃ y6 : Bool, (curfewref01_Has_R y5 (List.getD z3x0 (Int.toNat z3x4) 0) y6) ∧ (br (!y6) ((Sum.inl ()) = y4_) (i.te [(V.row 0 1 (List.length z3x0) z3q0)] [] (i.tq [(vu z3x2), (V.yld z3q0)] (l (z3x0, z3x1, z3x2, z3x3, (IntKind.wrap .i64 (z3x4 + 1))) y4_)))))))) (i.te [(vu z3x2)] [] ((Sum.inr ()) = y4_)))
def curfewref06_Right_l0 : Nat → curfewref06_Right_l0_Z → curfewref06_Right_l0_Y → Prop
  | 0, _, _ => False
  | k + 1, (z3x0, z3x1, z3x2, z3x3, z3x4), y4_ => (br (decide (z3x4 < z3x3)) (req ((decide (0 ≤ z3x4)) && (decide (z3x4 < (((List.length z3x0) : Nat) : Int)))) (req (Nat.blt (Int.toNat z3x4) (List.length z3x0)) (∃ y5 : Int, (curfewref06_Whole_R z3x1 y5) ∧ (∃ y6 : Bool, (curfewref01_Has_R y5 (List.getD z3x0 (Int.toNat z3x4) 0) y6) ∧ (br (!y6) ((Sum.inl ()) = y4_) (curfewref06_Right_l0 k (z3x0, z3x1, z3x2, z3x3, (IntKind.wrap .i64 (z3x4 + 1))) y4_)))))) ((Sum.inr ()) = y4_))
def curfewref06_Right_l0_L (z : curfewref06_Right_l0_Z) (y : curfewref06_Right_l0_Y) : Prop := ∃ k, curfewref06_Right_l0 k z y
noncomputable def q111_0_lp : Lp := .auto none q111_0_body (loopK q111_0_k fun z y => ∃ k, curfewref06_Right_l0 k z y)
noncomputable def q111_lp : Nat → FuncId → Nat → Nat → Lp := lpTab [(111, 2, 1, 1, q111_0_lp)]
theorem q111_0_t (n k : Nat) (z3x0 : List Int) (z3x1 z3x2 z3x3 z3x4 : Int) (z3q0 : Nat) (y4_ : curfewref06_Right_l0_Y) : rnd q111_cx okT q111_lp (n + 1) 111 none q111_0_body q111_0_k (curfewref06_Right_l0 k) (z3x0, z3x1, z3x2, z3x3, z3x4) z3q0 () y4_ = curfewref06_Right_l0_F ipT (fun z y => curfewref06_Right_l0 k z y) z3x0 z3x1 z3x2 z3x3 z3x4 z3q0 y4_ := by kernel_rfl
theorem q111_0_r (k : Nat) (z3x0 : List Int) (z3x1 z3x2 z3x3 z3x4 : Int) (z3q0 : Nat) (y4_ : curfewref06_Right_l0_Y) : curfewref06_Right_l0 (k + 1) (z3x0, z3x1, z3x2, z3x3, z3x4) y4_ → curfewref06_Right_l0_F ipT (fun z y => curfewref06_Right_l0 k z y) z3x0 z3x1 z3x2 z3x3 z3x4 z3q0 y4_ := by
  unfold curfewref06_Right_l0_F
  intro h; simp only [curfewref06_Right_l0] at h; revert h
  refine MI.run ?_
  repeat' (first | intro _ | with_reducible constructor)
theorem q111_0_ok (n : Nat) : Owed q111_cx okT 111 q111_lp (n + 1) q111_0_lp := owed_rnd (lk := q111_0_k) (l := curfewref06_Right_l0) (fun z y h => h) fun k z q c y h => Eq.mpr (q111_0_t n k z.1 z.2.1 z.2.2.1 z.2.2.2.1 z.2.2.2.2 q y) (q111_0_r k z.1 z.2.1 z.2.2.1 z.2.2.2.1 z.2.2.2.2 q y h)
def curfewref06_Right_F (i : Ip) (a0 a1 : Int) (y : Bool) : Prop :=
  (∃ y1 : List Int, (curfewref01_All_R a1 y1) ∧ (i.cp (List.length y1) fun c2 hc2 => (i.lo none q111_0_body (i.te [(V.row 0 1 (List.length y1) c2)] [] (∃ y8 : curfewref06_Right_l0_Y, curfewref06_Right_l0_L (y1, a0, a1, (((List.length y1) : Nat) : Int), 0) y8 ∧ sume (fun y8 => (false = y)) (fun y8 => ((a1 != 0) = y)) y8)))))
def curfewref06_Right_R (a0 a1 : Int) (y : Bool) : Prop :=
  (∃ y1 : List Int, (curfewref01_All_R a1 y1) ∧ (∃ y8 : curfewref06_Right_l0_Y, curfewref06_Right_l0_L (y1, a0, a1, (((List.length y1) : Nat) : Int), 0) y8 ∧ sume (fun y8 => (false = y)) (fun y8 => ((a1 != 0) = y)) y8))
theorem q111_t (a0 a1 : Int) (y : Bool) : acall q111_cx okT q111_lp 60 (.fn 111 [] []) [(vi a0), (vu a1)] [] (leafK B111 y) = curfewref06_Right_F ipT a0 a1 y := by kernel_rfl
theorem q111_r (a0 a1 : Int) (y : Bool) : curfewref06_Right_R a0 a1 y → curfewref06_Right_F ipT a0 a1 y := by
  unfold curfewref06_Right_R curfewref06_Right_F
  refine MI.run ?_
  repeat' (first | intro _ | with_reducible constructor)
abbrev r111 (x : A111.den) (y : B111.den) : Prop := curfewref06_Right_R (x.1) (x.2) y
theorem curfewref06_Right_ok : FxOk Tryz.prog gsT 111 A111 B111 r111 := fo (c := q111_cx) rfl rfl (Fns_assoc ⟨b111, curfewref01_Has_ok, curfewref01_All_ok, curfewref06_Whole_ok, trivial⟩) (lp := q111_lp) (n := 60) (LpOk_tab ⟨q111_0_ok, trivial⟩) (enters Tryz.func111 (by kernel_rfl) rfl) (fun y => ⟨_, rfl⟩) fun x y h => Eq.mpr (q111_t _ _ y) (q111_r _ _ y h)
def e111 : Nat × Ent := (111, .fx A111 B111 r111)
noncomputable def c52 : Nat × Ent := (52, .body Tryz.f52)
theorem b52 {c : Cx} : EntOk Tryz.prog c 52 (.body Tryz.f52) := body_ent Tryz.func52 (by kernel_rfl) (by kernel_rfl)
abbrev A52 : RT := (.one (.agg (.cons (.int .u64) (.cons (.int .u64) (.cons (.int .u64) (.cons (.int .u64) (.one (.int .u64))))))))
abbrev B52 : RT := .bool
noncomputable def q52_cx : Cx := ⟨tyT, [c52, e110, e111], gsT, eqT, false⟩
noncomputable def q52_0_body : Code := subC [1, 0, 1, 0, 0] (bodyOf Tryz.f52)
abbrev curfewref07_Right_l0_Z : Type := Int × Int × Int × Int × Int × Int
abbrev curfewref07_Right_l0_Y : Type := (Unit) ⊕ (Unit)
noncomputable def q52_0_k : LK := ⟨1, ⟨[(6, .agg [.w 0, .w 1, .w 2, .w 3, .w 4]), (7, .w 5)], [.dead], []⟩, [.int .u64, .int .u64, .int .u64, .int .u64, .int .u64, .int .i64], [], [], [], [⟨.ret, ⟨[(2, .lb false)], [.dead], []⟩, [], [], none⟩, ⟨(.exit 0), ⟨[], [.dead], []⟩, [], [], none⟩]⟩
def curfewref07_Right_l0_F (i : Ip) (l : curfewref07_Right_l0_Z → curfewref07_Right_l0_Y → Prop) (z2x0 z2x1 z2x2 z2x3 z2x4 z2x5 : Int) (y3_ : curfewref07_Right_l0_Y) : Prop :=
  (br (decide (z2x5 < 5)) (i.rq (((decide (0 ≤ z2x5)) && (decide (z2x5 < 5))) && (Nat.blt ((Int.toNat z2x5) * 1) 5)) (∃ y4 : Bool, (curfewref06_Right_R z2x5 (List.getD ([z2x0, z2x1, z2x2, z2x3, z2x4] : List Int) ((Int.toNat z2x5) * 1) 0) y4) ∧ (br (!y4) ((Sum.inl ()) = y3_) (l (z2x0, z2x1, z2x2, z2x3, z2x4, (IntKind.wrap .i64 (z2x5 + 1))) y3_)))) ((Sum.inr ()) = y3_))
def curfewref07_Right_l0 : Nat → curfewref07_Right_l0_Z → curfewref07_Right_l0_Y → Prop
  | 0, _, _ => False
  | k + 1, (z2x0, z2x1, z2x2, z2x3, z2x4, z2x5), y3_ => (br (decide (z2x5 < 5)) (req (((decide (0 ≤ z2x5)) && (decide (z2x5 < 5))) && (Nat.blt ((Int.toNat z2x5) * 1) 5)) (∃ y4 : Bool, (curfewref06_Right_R z2x5 (List.getD ([z2x0, z2x1, z2x2, z2x3, z2x4] : List Int) ((Int.toNat z2x5) * 1) 0) y4) ∧ (br (!y4) ((Sum.inl ()) = y3_) (curfewref07_Right_l0 k (z2x0, z2x1, z2x2, z2x3, z2x4, (IntKind.wrap .i64 (z2x5 + 1))) y3_)))) ((Sum.inr ()) = y3_))
def curfewref07_Right_l0_L (z : curfewref07_Right_l0_Z) (y : curfewref07_Right_l0_Y) : Prop := ∃ k, curfewref07_Right_l0 k z y
noncomputable def q52_0_lp : Lp := .auto none q52_0_body (loopK q52_0_k fun z y => ∃ k, curfewref07_Right_l0 k z y)
noncomputable def q52_lp : Nat → FuncId → Nat → Nat → Lp := lpTab [(52, 2, 1, 1, q52_0_lp)]
theorem q52_0_t (n k : Nat) (z2x0 z2x1 z2x2 z2x3 z2x4 z2x5 : Int) (y3_ : curfewref07_Right_l0_Y) : rnd q52_cx okT q52_lp (n + 1) 52 none q52_0_body q52_0_k (curfewref07_Right_l0 k) (z2x0, z2x1, z2x2, z2x3, z2x4, z2x5) () () y3_ = curfewref07_Right_l0_F ipT (fun z y => curfewref07_Right_l0 k z y) z2x0 z2x1 z2x2 z2x3 z2x4 z2x5 y3_ := by kernel_rfl
theorem q52_0_r (k : Nat) (z2x0 z2x1 z2x2 z2x3 z2x4 z2x5 : Int) (y3_ : curfewref07_Right_l0_Y) : curfewref07_Right_l0 (k + 1) (z2x0, z2x1, z2x2, z2x3, z2x4, z2x5) y3_ → curfewref07_Right_l0_F ipT (fun z y => curfewref07_Right_l0 k z y) z2x0 z2x1 z2x2 z2x3 z2x4 z2x5 y3_ := by
  unfold curfewref07_Right_l0_F
  intro h; simp only [curfewref07_Right_l0] at h; revert h
  refine MI.run ?_
  repeat' (first | intro _ | with_reducible constructor)
theorem q52_0_ok (n : Nat) : Owed q52_cx okT 52 q52_lp (n + 1) q52_0_lp := owed_rnd (lk := q52_0_k) (l := curfewref07_Right_l0) (fun z y h => h) fun k z q c y h => Eq.mpr (q52_0_t n k z.1 z.2.1 z.2.2.1 z.2.2.2.1 z.2.2.2.2.1 z.2.2.2.2.2 y) (q52_0_r k z.1 z.2.1 z.2.2.1 z.2.2.2.1 z.2.2.2.2.1 z.2.2.2.2.2 y h)
def curfewref07_Right_F (i : Ip) (a0 a1 a2 a3 a4 : Int) (y : Bool) : Prop :=
  (∃ y1 : Int × Int × Int × Int × Int, (curfewref07_Fields_R a0 a1 a2 a3 a4 y1) ∧ (i.lo none q52_0_body (∃ y6 : curfewref07_Right_l0_Y, curfewref07_Right_l0_L ((y1.1), (y1.2.1), (y1.2.2.1), (y1.2.2.2.1), (y1.2.2.2.2), 0) y6 ∧ sume (fun y6 => (false = y)) (fun y6 => (true = y)) y6)))
def curfewref07_Right_R (a0 a1 a2 a3 a4 : Int) (y : Bool) : Prop :=
  (∃ y1 : Int × Int × Int × Int × Int, (curfewref07_Fields_R a0 a1 a2 a3 a4 y1) ∧ (∃ y6 : curfewref07_Right_l0_Y, curfewref07_Right_l0_L ((y1.1), (y1.2.1), (y1.2.2.1), (y1.2.2.2.1), (y1.2.2.2.2), 0) y6 ∧ sume (fun y6 => (false = y)) (fun y6 => (true = y)) y6))
theorem q52_t (a0 a1 a2 a3 a4 : Int) (y : Bool) : acall q52_cx okT q52_lp 60 (.fn 52 [] []) [(V.agg [(vu a0), (vu a1), (vu a2), (vu a3), (vu a4)])] [] (leafK B52 y) = curfewref07_Right_F ipT a0 a1 a2 a3 a4 y := by kernel_rfl
theorem q52_r (a0 a1 a2 a3 a4 : Int) (y : Bool) : curfewref07_Right_R a0 a1 a2 a3 a4 y → curfewref07_Right_F ipT a0 a1 a2 a3 a4 y := by
  unfold curfewref07_Right_R curfewref07_Right_F
  refine MI.run ?_
  repeat' (first | intro _ | with_reducible constructor)
abbrev r52 (x : A52.den) (y : B52.den) : Prop := curfewref07_Right_R (x.1) (x.2.1) (x.2.2.1) (x.2.2.2.1) (x.2.2.2.2) y
theorem curfewref07_Right_ok : FxOk Tryz.prog gsT 52 A52 B52 r52 := fo (c := q52_cx) rfl rfl (Fns_assoc ⟨b52, curfewref07_Fields_ok, curfewref06_Right_ok, trivial⟩) (lp := q52_lp) (n := 60) (LpOk_tab ⟨q52_0_ok, trivial⟩) (enters Tryz.func52 (by kernel_rfl) rfl) (fun y => ⟨_, rfl⟩) fun x y h => Eq.mpr (q52_t _ _ _ _ _ y) (q52_r _ _ _ _ _ y h)
def e52 : Nat × Ent := (52, .fx A52 B52 r52)
noncomputable def c64 : Nat × Ent := (64, .body Tryz.f64)
theorem b64 {c : Cx} : EntOk Tryz.prog c 64 (.body Tryz.f64) := body_ent Tryz.func64 (by kernel_rfl) (by kernel_rfl)
abbrev A64 : RT := (.cons (.int .u32) (.cons (.int .i64) (.cons (.int .i64) (.one (.int .i64)))))
abbrev B64 : RT := .bool
noncomputable def q64_cx : Cx := ⟨tyT, [c64], gsT, eqT, false⟩
def curfewref10_plain_R (a0 a1 a2 a3 : Int) (y : Bool) : Prop :=
  (br (a0 != 0) (br (a1 == 0) (br (decide (a2 ≥ 0)) (br (decide (a2 ≤ 2)) (br (decide (a3 ≥ 0)) ((decide (a3 ≤ 3)) = y) (false = y)) (false = y)) (false = y)) (br (a1 == 1) (br (decide (a2 ≥ 0)) (br (decide (a2 ≤ 2)) (br (decide (a3 ≥ 0)) ((decide (a3 ≤ 3)) = y) (false = y)) (false = y)) (false = y)) (false = y))) (false = y))
theorem q64_t (a0 a1 a2 a3 : Int) (y : Bool) : acall q64_cx okT lpT 60 (.fn 64 [] []) [(V.int .u32 a0), (vi a1), (vi a2), (vi a3)] [] (leafK B64 y) = curfewref10_plain_R a0 a1 a2 a3 y := by kernel_rfl
abbrev r64 (x : A64.den) (y : B64.den) : Prop := curfewref10_plain_R (x.1) (x.2.1) (x.2.2.1) (x.2.2.2) y
theorem curfewref10_plain_ok : FxOk Tryz.prog gsT 64 A64 B64 r64 := fo (c := q64_cx) rfl rfl (Fns_assoc ⟨b64, trivial⟩) (n := 60) (lp_ok) (enters Tryz.func64 (by kernel_rfl) rfl) (fun y => ⟨_, rfl⟩) fun x y h => Eq.mpr (q64_t _ _ _ _ y) h
def e64 : Nat × Ent := (64, .fx A64 B64 r64)
noncomputable def c65 : Nat × Ent := (65, .body Tryz.f65)
theorem b65 {c : Cx} : EntOk Tryz.prog c 65 (.body Tryz.f65) := body_ent Tryz.func65 (by kernel_rfl) (by kernel_rfl)
abbrev A65 : RT := (.one (.int .i64))
abbrev B65 : RT := .bool
noncomputable def q65_cx : Cx := ⟨tyT, [c65], gsT, eqT, false⟩
def curfewref10_time_R (a0 : Int) (y : Bool) : Prop :=
  (br (decide (a0 ≥ 0)) ((decide (a0 ≤ 253402300799)) = y) (false = y))
theorem q65_t (a0 : Int) (y : Bool) : acall q65_cx okT lpT 60 (.fn 65 [] []) [(vi a0)] [] (leafK B65 y) = curfewref10_time_R a0 y := by kernel_rfl
abbrev r65 (x : A65.den) (y : B65.den) : Prop := curfewref10_time_R x y
theorem curfewref10_time_ok : FxOk Tryz.prog gsT 65 A65 B65 r65 := fo (c := q65_cx) rfl rfl (Fns_assoc ⟨b65, trivial⟩) (n := 60) (lp_ok) (enters Tryz.func65 (by kernel_rfl) rfl) (fun y => ⟨_, rfl⟩) fun x y h => Eq.mpr (q65_t _ y) h
def e65 : Nat × Ent := (65, .fx A65 B65 r65)
noncomputable def c231 : Nat × Ent := (231, .body Tryz.f231)
theorem b231 {c : Cx} : EntOk Tryz.prog c 231 (.body Tryz.f231) := body_ent Tryz.func231 (by kernel_rfl) (by kernel_rfl)
abbrev A231 : RT := (.one (.int .i64))
abbrev B231 : RT := .bool
noncomputable def q231_cx : Cx := ⟨tyT, [c231], gsT, eqT, false⟩
def curfewref04_Leap_R (a0 : Int) (y : Bool) : Prop :=
  (br ((Int.tmod a0 4) == 0) (br ((Int.tmod a0 100) != 0) (true = y) (((Int.tmod a0 400) == 0) = y)) (((Int.tmod a0 400) == 0) = y))
theorem q231_t (a0 : Int) (y : Bool) : acall q231_cx okT lpT 60 (.fn 231 [] []) [(vi a0)] [] (leafK B231 y) = curfewref04_Leap_R a0 y := by kernel_rfl
abbrev r231 (x : A231.den) (y : B231.den) : Prop := curfewref04_Leap_R x y
theorem curfewref04_Leap_ok : FxOk Tryz.prog gsT 231 A231 B231 r231 := fo (c := q231_cx) rfl rfl (Fns_assoc ⟨b231, trivial⟩) (n := 60) (lp_ok) (enters Tryz.func231 (by kernel_rfl) rfl) (fun y => ⟨_, rfl⟩) fun x y h => Eq.mpr (q231_t _ y) h
def e231 : Nat × Ent := (231, .fx A231 B231 r231)
noncomputable def c182 : Nat × Ent := (182, .body Tryz.f182)
theorem b182 {c : Cx} : EntOk Tryz.prog c 182 (.body Tryz.f182) := body_ent Tryz.func182 (by kernel_rfl) (by kernel_rfl)
abbrev A182 : RT := (.cons (.int .i64) (.one (.int .i64)))
abbrev B182 : RT := (.int .i64)
noncomputable def q182_cx : Cx := ⟨tyT, [c182, e231], gsT, eqT, false⟩
def curfewref04_Long_j0 (p0 y : Int) : Prop :=
  (req (((decide (0 ≤ (IntKind.wrap .i64 (p0 - 1)))) && (decide ((IntKind.wrap .i64 (p0 - 1)) < 12))) && (Nat.blt ((Int.toNat (IntKind.wrap .i64 (p0 - 1))) * 1) 12)) ((List.getD ([31, 28, 31, 30, 31, 30, 31, 31, 30, 31, 30, 31] : List Int) ((Int.toNat (IntKind.wrap .i64 (p0 - 1))) * 1) 0) = y))
def curfewref04_Long_j0F (i : Ip) (p0 y : Int) : Prop :=
  (i.rq (((decide (0 ≤ (IntKind.wrap .i64 (p0 - 1)))) && (decide ((IntKind.wrap .i64 (p0 - 1)) < 12))) && (Nat.blt ((Int.toNat (IntKind.wrap .i64 (p0 - 1))) * 1) 12)) ((List.getD ([31, 28, 31, 30, 31, 30, 31, 31, 30, 31, 30, 31] : List Int) ((Int.toNat (IntKind.wrap .i64 (p0 - 1))) * 1) 0) = y))
theorem curfewref04_Long_j0_r (p0 y : Int) : MI (curfewref04_Long_j0 p0 y) (curfewref04_Long_j0F ipT p0 y) := by
  unfold curfewref04_Long_j0 curfewref04_Long_j0F
  repeat' (first | intro _ | with_reducible constructor)
def curfewref04_Long_F (i : Ip) (a0 a1 : Int) (y : Int) : Prop :=
  (br (decide (a1 < 1)) (0 = y) (br (decide (a1 > 12)) (0 = y) (br (a1 == 2) (∃ y1 : Bool, (curfewref04_Leap_R a0 y1) ∧ (br y1 (29 = y) (curfewref04_Long_j0F i a1 y))) (curfewref04_Long_j0F i a1 y))))
def curfewref04_Long_R (a0 a1 : Int) (y : Int) : Prop :=
  (br (decide (a1 < 1)) (0 = y) (br (decide (a1 > 12)) (0 = y) (br (a1 == 2) (∃ y1 : Bool, (curfewref04_Leap_R a0 y1) ∧ (br y1 (29 = y) (curfewref04_Long_j0 a1 y))) (curfewref04_Long_j0 a1 y))))
theorem q182_t (a0 a1 : Int) (y : Int) : acall q182_cx okT lpT 60 (.fn 182 [] []) [(vi a0), (vi a1)] [] (leafK B182 y) = curfewref04_Long_F ipT a0 a1 y := by kernel_rfl
theorem q182_r (a0 a1 : Int) (y : Int) : curfewref04_Long_R a0 a1 y → curfewref04_Long_F ipT a0 a1 y := by
  unfold curfewref04_Long_R curfewref04_Long_F
  refine MI.run ?_
  repeat' (first | intro _ | exact curfewref04_Long_j0_r _ _ | with_reducible constructor)
abbrev r182 (x : A182.den) (y : B182.den) : Prop := curfewref04_Long_R (x.1) (x.2) y
theorem curfewref04_Long_ok : FxOk Tryz.prog gsT 182 A182 B182 r182 := fo (c := q182_cx) rfl rfl (Fns_assoc ⟨b182, curfewref04_Leap_ok, trivial⟩) (n := 60) (lp_ok) (enters Tryz.func182 (by kernel_rfl) rfl) (fun y => ⟨_, rfl⟩) fun x y h => Eq.mpr (q182_t _ _ y) (q182_r _ _ y h)
def e182 : Nat × Ent := (182, .fx A182 B182 r182)
noncomputable def c184 : Nat × Ent := (184, .body Tryz.f184)
theorem b184 {c : Cx} : EntOk Tryz.prog c 184 (.body Tryz.f184) := body_ent Tryz.func184 (by kernel_rfl) (by kernel_rfl)
abbrev A184 : RT := (.one (.int .i64))
abbrev B184 : RT := (.int .i64)
noncomputable def q184_cx : Cx := ⟨tyT, [c184, e231], gsT, eqT, false⟩
def curfewref04_year_R (a0 : Int) (y : Int) : Prop :=
  (∃ y1 : Bool, (curfewref04_Leap_R a0 y1) ∧ (br y1 (366 = y) (365 = y)))
theorem q184_t (a0 : Int) (y : Int) : acall q184_cx okT lpT 60 (.fn 184 [] []) [(vi a0)] [] (leafK B184 y) = curfewref04_year_R a0 y := by kernel_rfl
abbrev r184 (x : A184.den) (y : B184.den) : Prop := curfewref04_year_R x y
theorem curfewref04_year_ok : FxOk Tryz.prog gsT 184 A184 B184 r184 := fo (c := q184_cx) rfl rfl (Fns_assoc ⟨b184, curfewref04_Leap_ok, trivial⟩) (n := 60) (lp_ok) (enters Tryz.func184 (by kernel_rfl) rfl) (fun y => ⟨_, rfl⟩) fun x y h => Eq.mpr (q184_t _ y) h
def e184 : Nat × Ent := (184, .fx A184 B184 r184)
noncomputable def c136 : Nat × Ent := (136, .body Tryz.f136)
theorem b136 {c : Cx} : EntOk Tryz.prog c 136 (.body Tryz.f136) := body_ent Tryz.func136 (by kernel_rfl) (by kernel_rfl)
abbrev A136 : RT := (.one (.int .i64))
abbrev B136 : RT := (.agg (.cons (.int .i64) (.cons (.int .i64) (.one (.int .i64)))))
noncomputable def q136_cx : Cx := ⟨tyT, [c136, e182, e184], gsT, eqT, false⟩
noncomputable def q136_0_body : Code := subC [1, 1, 0, 0, 0] (bodyOf Tryz.f136)
abbrev curfewref04_At_l0_Z : Type := Int × Int
abbrev curfewref04_At_l0_Y : Type := Int × Int
noncomputable def q136_0_k : LK := ⟨2, ⟨[(0, .w 1), (2, .ptr 0 0), (3, .ptr 1 0)], [.cells [.li .i64 0, .li .i64 0, .li .i64 0], .cells [.w 0, .li .i64 1, .li .i64 0]], []⟩, [.int .i64, .int .i64], [], [], [], [⟨(.exit 0), ⟨[(0, .w 1), (2, .ptr 0 0), (3, .ptr 1 0)], [.cells [.li .i64 0, .li .i64 0, .li .i64 0], .cells [.w 0, .li .i64 1, .li .i64 0]], []⟩, [.int .i64, .int .i64], [], none⟩]⟩
def curfewref04_At_l0 : Nat → curfewref04_At_l0_Z → curfewref04_At_l0_Y → Prop
  | 0, _, _ => False
  | k + 1, (z1x0, z1x1), y2_ => (∃ y3 : Int, (curfewref04_year_R z1x0 y3) ∧ (br (decide (z1x1 ≥ y3)) (∃ y4 : Int, (curfewref04_year_R z1x0 y4) ∧ (curfewref04_At_l0 k ((IntKind.wrap .i64 (z1x0 + 1)), (IntKind.wrap .i64 (z1x1 - y4))) y2_)) ((z1x0, z1x1) = y2_)))
def curfewref04_At_l0_L (z : curfewref04_At_l0_Z) (y : curfewref04_At_l0_Y) : Prop := ∃ k, curfewref04_At_l0 k z y
noncomputable def q136_0_lp : Lp := .auto none q136_0_body (loopK q136_0_k fun z y => ∃ k, curfewref04_At_l0 k z y)
noncomputable def q136_1_body : Code := subC [1, 1, 1, 0, 0, 0] (bodyOf Tryz.f136)
abbrev curfewref04_At_l1_Z : Type := Int × Int × Int
abbrev curfewref04_At_l1_Y : Type := Int × Int
noncomputable def q136_1_k : LK := ⟨2, ⟨[(0, .w 2), (2, .ptr 0 0), (3, .ptr 1 0)], [.cells [.li .i64 0, .li .i64 0, .li .i64 0], .cells [.w 0, .w 1, .li .i64 0]], []⟩, [.int .i64, .int .i64, .int .i64], [], [], [0], [⟨(.exit 2), ⟨[(0, .w 1), (2, .ptr 0 0), (3, .ptr 1 0)], [.cells [.li .i64 0, .li .i64 0, .li .i64 0], .cells [.e (.p 0), .w 0, .li .i64 0]], []⟩, [.int .i64, .int .i64], [], none⟩]⟩
def curfewref04_At_l1_F (i : Ip) (l : curfewref04_At_l1_Z → curfewref04_At_l1_Y → Prop) (z7x0 z7x1 z7x2 : Int) (y8_ : curfewref04_At_l1_Y) : Prop :=
  (∃ y9 : Int, (curfewref04_Long_R z7x0 z7x1 y9) ∧ (br (decide (z7x2 ≥ y9)) (∃ y10 : Int, (curfewref04_Long_R z7x0 z7x1 y10) ∧ (i.tq [(vi z7x0)] (l (z7x0, (IntKind.wrap .i64 (z7x1 + 1)), (IntKind.wrap .i64 (z7x2 - y10))) y8_))) (i.te [(vi z7x0)] [] ((z7x1, z7x2) = y8_))))
def curfewref04_At_l1 : Nat → curfewref04_At_l1_Z → curfewref04_At_l1_Y → Prop
  | 0, _, _ => False
  | k + 1, (z7x0, z7x1, z7x2), y8_ => (∃ y9 : Int, (curfewref04_Long_R z7x0 z7x1 y9) ∧ (br (decide (z7x2 ≥ y9)) (∃ y10 : Int, (curfewref04_Long_R z7x0 z7x1 y10) ∧ (curfewref04_At_l1 k (z7x0, (IntKind.wrap .i64 (z7x1 + 1)), (IntKind.wrap .i64 (z7x2 - y10))) y8_)) ((z7x1, z7x2) = y8_)))
def curfewref04_At_l1_L (z : curfewref04_At_l1_Z) (y : curfewref04_At_l1_Y) : Prop := ∃ k, curfewref04_At_l1 k z y
noncomputable def q136_1_lp : Lp := .auto none q136_1_body (loopK q136_1_k fun z y => ∃ k, curfewref04_At_l1 k z y)
noncomputable def q136_lp : Nat → FuncId → Nat → Nat → Lp := lpTab [(136, 2, 2, 1, q136_0_lp), (136, 5, 2, 1, q136_1_lp)]
theorem q136_0_t (n k : Nat) (z1x0 z1x1 : Int) (y2_ : curfewref04_At_l0_Y) : rnd q136_cx okT q136_lp (n + 1) 136 none q136_0_body q136_0_k (curfewref04_At_l0 k) (z1x0, z1x1) () () y2_ = curfewref04_At_l0 (k + 1) (z1x0, z1x1) y2_ := by kernel_rfl
theorem q136_0_ok (n : Nat) : Owed q136_cx okT 136 q136_lp (n + 1) q136_0_lp := owed_rnd (lk := q136_0_k) (l := curfewref04_At_l0) (fun z y h => h) fun k z q c y h => Eq.mpr (q136_0_t n k z.1 z.2 y) h
theorem q136_1_t (n k : Nat) (z7x0 z7x1 z7x2 : Int) (y8_ : curfewref04_At_l1_Y) : rnd q136_cx okT q136_lp (n + 1) 136 none q136_1_body q136_1_k (curfewref04_At_l1 k) (z7x0, z7x1, z7x2) () () y8_ = curfewref04_At_l1_F ipT (fun z y => curfewref04_At_l1 k z y) z7x0 z7x1 z7x2 y8_ := by kernel_rfl
theorem q136_1_r (k : Nat) (z7x0 z7x1 z7x2 : Int) (y8_ : curfewref04_At_l1_Y) : curfewref04_At_l1 (k + 1) (z7x0, z7x1, z7x2) y8_ → curfewref04_At_l1_F ipT (fun z y => curfewref04_At_l1 k z y) z7x0 z7x1 z7x2 y8_ := by
  unfold curfewref04_At_l1_F
  intro h; simp only [curfewref04_At_l1] at h; revert h
  refine MI.run ?_
  repeat' (first | intro _ | with_reducible constructor)
theorem q136_1_ok (n : Nat) : Owed q136_cx okT 136 q136_lp (n + 1) q136_1_lp := owed_rnd (lk := q136_1_k) (l := curfewref04_At_l1) (fun z y h => h) fun k z q c y h => Eq.mpr (q136_1_t n k z.1 z.2.1 z.2.2 y) (q136_1_r k z.1 z.2.1 z.2.2 y h)
def curfewref04_At_F (i : Ip) (a0 : Int) (y : Int × Int × Int) : Prop :=
  (i.lo none q136_0_body (∃ y6 : curfewref04_At_l0_Y, curfewref04_At_l0_L (1970, a0) y6 ∧ (i.lo none q136_1_body (∃ y12 : curfewref04_At_l1_Y, curfewref04_At_l1_L ((y6.1), 1, (y6.2)) y12 ∧ (((y6.1), ((y12.1), (IntKind.wrap .i64 ((y12.2) + 1)))) = y)))))
def curfewref04_At_R (a0 : Int) (y : Int × Int × Int) : Prop :=
  (∃ y6 : curfewref04_At_l0_Y, curfewref04_At_l0_L (1970, a0) y6 ∧ (∃ y12 : curfewref04_At_l1_Y, curfewref04_At_l1_L ((y6.1), 1, (y6.2)) y12 ∧ (((y6.1), ((y12.1), (IntKind.wrap .i64 ((y12.2) + 1)))) = y)))
theorem q136_t (a0 : Int) (y : Int × Int × Int) : acall q136_cx okT q136_lp 60 (.fn 136 [] []) [(vi a0)] [] (leafK B136 y) = curfewref04_At_F ipT a0 y := by kernel_rfl
theorem q136_r (a0 : Int) (y : Int × Int × Int) : curfewref04_At_R a0 y → curfewref04_At_F ipT a0 y := by
  unfold curfewref04_At_R curfewref04_At_F
  refine MI.run ?_
  repeat' (first | intro _ | with_reducible constructor)
abbrev r136 (x : A136.den) (y : B136.den) : Prop := curfewref04_At_R x y
theorem curfewref04_At_ok : FxOk Tryz.prog gsT 136 A136 B136 r136 := fo (c := q136_cx) rfl rfl (Fns_assoc ⟨b136, curfewref04_Long_ok, curfewref04_year_ok, trivial⟩) (lp := q136_lp) (n := 60) (LpOk_tab ⟨q136_0_ok, q136_1_ok, trivial⟩) (enters Tryz.func136 (by kernel_rfl) rfl) (fun y => ⟨_, rfl⟩) fun x y h => Eq.mpr (q136_t _ y) (q136_r _ y h)
def e136 : Nat × Ent := (136, .fx A136 B136 r136)
noncomputable def c117 : Nat × Ent := (117, .body Tryz.f117)
theorem b117 {c : Cx} : EntOk Tryz.prog c 117 (.body Tryz.f117) := body_ent Tryz.func117 (by kernel_rfl) (by kernel_rfl)
abbrev A117 : RT := (.one (.int .i64))
abbrev B117 : RT := (.int .i64)
noncomputable def q117_cx : Cx := ⟨tyT, [c117], gsT, eqT, false⟩
def curfewref04_Weekday_R (a0 : Int) (y : Int) : Prop :=
  ((Int.tmod (IntKind.wrap .i64 ((Int.tmod a0 7) + 4)) 7) = y)
theorem q117_t (a0 : Int) (y : Int) : acall q117_cx okT lpT 60 (.fn 117 [] []) [(vi a0)] [] (leafK B117 y) = curfewref04_Weekday_R a0 y := by kernel_rfl
abbrev r117 (x : A117.den) (y : B117.den) : Prop := curfewref04_Weekday_R x y
theorem curfewref04_Weekday_ok : FxOk Tryz.prog gsT 117 A117 B117 r117 := fo (c := q117_cx) rfl rfl (Fns_assoc ⟨b117, trivial⟩) (n := 60) (lp_ok) (enters Tryz.func117 (by kernel_rfl) rfl) (fun y => ⟨_, rfl⟩) fun x y h => Eq.mpr (q117_t _ y) h
def e117 : Nat × Ent := (117, .fx A117 B117 r117)
noncomputable def c137 : Nat × Ent := (137, .body Tryz.f137)
theorem b137 {c : Cx} : EntOk Tryz.prog c 137 (.body Tryz.f137) := body_ent Tryz.func137 (by kernel_rfl) (by kernel_rfl)
abbrev A137 : RT := (.cons (.agg (.cons (.int .u64) (.cons (.int .u64) (.cons (.int .u64) (.cons (.int .u64) (.one (.int .u64))))))) (.cons (.agg (.cons (.int .i64) (.cons (.int .i64) (.one (.int .i64))))) (.one (.int .i64))))
abbrev B137 : RT := .bool
noncomputable def q137_cx : Cx := ⟨tyT, [e116, e117, e119, c137], gsT, eqT, false⟩
def curfewref08_fits_F (i : Ip) (a0 a1 a2 a3 a4 a5 a6 a7 a8 : Int) (y : Bool) : Prop :=
  (∃ y1 : Bool, (curfewref01_Has_R a3 a6 y1) ∧ (br (!y1) (false = y) (∃ y2 : Bool, (curfewref01_Has_R a2 a7 y2) ∧ (∃ y3 : Int, (curfewref04_Weekday_R a8 y3) ∧ (∃ y4 : Bool, (curfewref01_Has_R a4 y3 y4) ∧ (∃ y5 : List Int, (curfewref01_All_R a2 y5) ∧ (i.cp (List.length y5) fun c6 hc6 => (br ((((List.length y5) : Nat) : Int) == 31) (br y2 (y4 = y) (false = y)) (∃ y7 : List Int, (curfewref01_All_R a4 y7) ∧ (i.cp (List.length y7) fun c8 hc8 => (br ((((List.length y7) : Nat) : Int) == 7) (br y2 (y4 = y) (false = y)) (br y2 (true = y) (y4 = y)))))))))))))
def curfewref08_fits_R (a0 a1 a2 a3 a4 a5 a6 a7 a8 : Int) (y : Bool) : Prop :=
  (∃ y1 : Bool, (curfewref01_Has_R a3 a6 y1) ∧ (br (!y1) (false = y) (∃ y2 : Bool, (curfewref01_Has_R a2 a7 y2) ∧ (∃ y3 : Int, (curfewref04_Weekday_R a8 y3) ∧ (∃ y4 : Bool, (curfewref01_Has_R a4 y3 y4) ∧ (∃ y5 : List Int, (curfewref01_All_R a2 y5) ∧ (br ((((List.length y5) : Nat) : Int) == 31) (br y2 (y4 = y) (false = y)) (∃ y7 : List Int, (curfewref01_All_R a4 y7) ∧ (br ((((List.length y7) : Nat) : Int) == 7) (br y2 (y4 = y) (false = y)) (br y2 (true = y) (y4 = y)))))))))))
theorem q137_t (a0 a1 a2 a3 a4 a5 a6 a7 a8 : Int) (y : Bool) : acall q137_cx okT lpT 60 (.fn 137 [] []) [(V.agg [(vu a0), (vu a1), (vu a2), (vu a3), (vu a4)]), (V.agg [(vi a5), (vi a6), (vi a7)]), (vi a8)] [] (leafK B137 y) = curfewref08_fits_F ipT a0 a1 a2 a3 a4 a5 a6 a7 a8 y := by kernel_rfl
theorem q137_r (a0 a1 a2 a3 a4 a5 a6 a7 a8 : Int) (y : Bool) : curfewref08_fits_R a0 a1 a2 a3 a4 a5 a6 a7 a8 y → curfewref08_fits_F ipT a0 a1 a2 a3 a4 a5 a6 a7 a8 y := by
  unfold curfewref08_fits_R curfewref08_fits_F
  refine MI.run ?_
  repeat' (first | intro _ | with_reducible constructor)
abbrev r137 (x : A137.den) (y : B137.den) : Prop := curfewref08_fits_R (x.1.1) (x.1.2.1) (x.1.2.2.1) (x.1.2.2.2.1) (x.1.2.2.2.2) (x.2.1.1) (x.2.1.2.1) (x.2.1.2.2) (x.2.2) y
theorem curfewref08_fits_ok : FxOk Tryz.prog gsT 137 A137 B137 r137 := fo (c := q137_cx) rfl rfl (Fns_assoc ⟨curfewref01_Has_ok, curfewref04_Weekday_ok, curfewref01_All_ok, b137, trivial⟩) (n := 60) (lp_ok) (enters Tryz.func137 (by kernel_rfl) rfl) (fun y => ⟨_, rfl⟩) fun x y h => Eq.mpr (q137_t _ _ _ _ _ _ _ _ _ y) (q137_r _ _ _ _ _ _ _ _ _ y h)
def e137 : Nat × Ent := (137, .fx A137 B137 r137)
noncomputable def c139 : Nat × Ent := (139, .body Tryz.f139)
theorem b139 {c : Cx} : EntOk Tryz.prog c 139 (.body Tryz.f139) := body_ent Tryz.func139 (by kernel_rfl) (by kernel_rfl)
abbrev A139 : RT := (.one (.agg (.cons (.int .i64) (.cons (.int .i64) (.one (.int .i64))))))
abbrev B139 : RT := (.agg (.cons (.int .i64) (.cons (.int .i64) (.one (.int .i64)))))
noncomputable def q139_cx : Cx := ⟨tyT, [c139, e182], gsT, eqT, false⟩
def curfewref08_behind_R (a0 a1 a2 : Int) (y : Int × Int × Int) : Prop :=
  (∃ y1 : Int, (curfewref04_Long_R a0 a1 y1) ∧ (br (decide ((IntKind.wrap .i64 (a2 + 1)) > y1)) (br (decide ((IntKind.wrap .i64 (a1 + 1)) > 12)) (((IntKind.wrap .i64 (a0 + 1)), (1, 1)) = y) ((a0, ((IntKind.wrap .i64 (a1 + 1)), 1)) = y)) (br (decide (a1 > 12)) (((IntKind.wrap .i64 (a0 + 1)), (1, (IntKind.wrap .i64 (a2 + 1)))) = y) ((a0, (a1, (IntKind.wrap .i64 (a2 + 1)))) = y))))
theorem q139_t (a0 a1 a2 : Int) (y : Int × Int × Int) : acall q139_cx okT lpT 60 (.fn 139 [] []) [(V.agg [(vi a0), (vi a1), (vi a2)])] [] (leafK B139 y) = curfewref08_behind_R a0 a1 a2 y := by kernel_rfl
abbrev r139 (x : A139.den) (y : B139.den) : Prop := curfewref08_behind_R (x.1) (x.2.1) (x.2.2) y
theorem curfewref08_behind_ok : FxOk Tryz.prog gsT 139 A139 B139 r139 := fo (c := q139_cx) rfl rfl (Fns_assoc ⟨b139, curfewref04_Long_ok, trivial⟩) (n := 60) (lp_ok) (enters Tryz.func139 (by kernel_rfl) rfl) (fun y => ⟨_, rfl⟩) fun x y h => Eq.mpr (q139_t _ _ _ y) h
def e139 : Nat × Ent := (139, .fx A139 B139 r139)
noncomputable def c132 : Nat × Ent := (132, .body Tryz.f132)
theorem b132 {c : Cx} : EntOk Tryz.prog c 132 (.body Tryz.f132) := body_ent Tryz.func132 (by kernel_rfl) (by kernel_rfl)
abbrev A132 : RT := (.cons (.agg (.cons (.int .u64) (.cons (.int .u64) (.cons (.int .u64) (.cons (.int .u64) (.one (.int .u64))))))) (.cons (.int .i64) (.one (.int .i64))))
abbrev B132 : RT := (.nw (.int .i64) 3)
noncomputable def q132_cx : Cx := ⟨tyT, [c132, e136, e137, e139], gsT, eqT, false⟩
noncomputable def q132_0_body : Code := subC [1, 1, 1, 0, 1, 0, 0] (bodyOf Tryz.f132)
abbrev curfewref08_Fit_l0_Z : Type := List Int × Int × Int × Int × Int × Int × Int × Int × Int × Int × Int
abbrev curfewref08_Fit_l0_Y : Type := List Int
noncomputable def q132_0_k : LK := ⟨2, ⟨[(2, .w 9), (3, .ptr 0 0), (7, .row 2 1 (.z 0) (.c 0)), (8, .ptr 1 0), (9, .w 10)], [.cells [.w 1, .w 2, .w 3, .w 4, .w 5], .cells [.w 6, .w 7, .w 8], .row (.int .i64) (.z 0) 3 (.c 0)], []⟩, [.sl (.int .i64), .int .u64, .int .u64, .int .u64, .int .u64, .int .u64, .int .i64, .int .i64, .int .i64, .int .i64, .int .i64], [], [.nat], [], [⟨(.exit 0), ⟨[(7, .row 2 1 (.z 0) (.c 0))], [.dead, .dead, .row (.int .i64) (.z 0) 3 (.c 0)], []⟩, [.sl (.int .i64)], [.nat], none⟩]⟩
def curfewref08_Fit_l0_F (i : Ip) (l : curfewref08_Fit_l0_Z → curfewref08_Fit_l0_Y → Prop) (z2x0 : List Int) (z2x1 z2x2 z2x3 z2x4 z2x5 z2x6 z2x7 z2x8 z2x9 z2x10 : Int) (z2k0 : Nat) (y3_ : curfewref08_Fit_l0_Y) : Prop :=
  (br (decide (z2x10 ≤ z2x9)) (∃ y4 : Bool, (curfewref08_fits_R z2x1 z2x2 z2x3 z2x4 z2x5 z2x6 z2x7 z2x8 z2x10 y4) ∧ (br y4 (i.r2 (Nat.ble ((List.length (z2x0 ++ [z2x10])) * 9) 140737488355328) (((((true && true) && true) && (Nat.beq (List.length z2x0) (List.length z2x0))) && (Nat.beq z2k0 z2k0)) && (Nat.ble ((List.length (z2x0 ++ [z2x10])) * 9) 140737488355328)) (fun q => (band (band (band (band (band rfl rfl) rfl) (Nat.beq_refl _)) (Nat.beq_refl _)) q)) (i.cp (List.length (z2x0 ++ [z2x10])) fun c5 hc5 => (∃ y6 : Int × Int × Int, (curfewref08_behind_R z2x6 z2x7 z2x8 y6) ∧ (i.te [(V.row 2 1 (List.length (z2x0 ++ [z2x10])) c5)] [] (l ((z2x0 ++ [z2x10]), z2x1, z2x2, z2x3, z2x4, z2x5, (y6.1), (y6.2.1), (y6.2.2), z2x9, (IntKind.wrap .i64 (z2x10 + 1))) y3_))))) (∃ y7 : Int × Int × Int, (curfewref08_behind_R z2x6 z2x7 z2x8 y7) ∧ (i.te [(V.row 2 1 (List.length z2x0) z2k0)] [] (l (z2x0, z2x1, z2x2, z2x3, z2x4, z2x5, (y7.1), (y7.2.1), (y7.2.2), z2x9, (IntKind.wrap .i64 (z2x10 + 1))) y3_))))) (i.te [(V.row 2 1 (List.length z2x0) z2k0)] [] (z2x0 = y3_)))
def curfewref08_Fit_l0 : Nat → curfewref08_Fit_l0_Z → curfewref08_Fit_l0_Y → Prop
  | 0, _, _ => False
  | k + 1, (z2x0, z2x1, z2x2, z2x3, z2x4, z2x5, z2x6, z2x7, z2x8, z2x9, z2x10), y3_ => (br (decide (z2x10 ≤ z2x9)) (∃ y4 : Bool, (curfewref08_fits_R z2x1 z2x2 z2x3 z2x4 z2x5 z2x6 z2x7 z2x8 z2x10 y4) ∧ (br y4 (req (Nat.ble ((List.length (z2x0 ++ [z2x10])) * 9) 140737488355328) (∃ y6 : Int × Int × Int, (curfewref08_behind_R z2x6 z2x7 z2x8 y6) ∧ (curfewref08_Fit_l0 k ((z2x0 ++ [z2x10]), z2x1, z2x2, z2x3, z2x4, z2x5, (y6.1), (y6.2.1), (y6.2.2), z2x9, (IntKind.wrap .i64 (z2x10 + 1))) y3_))) (∃ y7 : Int × Int × Int, (curfewref08_behind_R z2x6 z2x7 z2x8 y7) ∧ (curfewref08_Fit_l0 k (z2x0, z2x1, z2x2, z2x3, z2x4, z2x5, (y7.1), (y7.2.1), (y7.2.2), z2x9, (IntKind.wrap .i64 (z2x10 + 1))) y3_)))) (z2x0 = y3_))
def curfewref08_Fit_l0_L (z : curfewref08_Fit_l0_Z) (y : curfewref08_Fit_l0_Y) : Prop := ∃ k, curfewref08_Fit_l0 k z y
noncomputable def q132_0_lp : Lp := .auto none q132_0_body (loopK q132_0_k fun z y => ∃ k, curfewref08_Fit_l0 k z y)
noncomputable def q132_lp : Nat → FuncId → Nat → Nat → Lp := lpTab [(132, 4, 2, 1, q132_0_lp)]
theorem q132_0_t (n k : Nat) (z2x0 : List Int) (z2x1 z2x2 z2x3 z2x4 z2x5 z2x6 z2x7 z2x8 z2x9 z2x10 : Int) (z2k0 : Nat) (y3_ : curfewref08_Fit_l0_Y) : rnd q132_cx okT q132_lp (n + 1) 132 none q132_0_body q132_0_k (curfewref08_Fit_l0 k) (z2x0, z2x1, z2x2, z2x3, z2x4, z2x5, z2x6, z2x7, z2x8, z2x9, z2x10) () z2k0 y3_ = curfewref08_Fit_l0_F ipT (fun z y => curfewref08_Fit_l0 k z y) z2x0 z2x1 z2x2 z2x3 z2x4 z2x5 z2x6 z2x7 z2x8 z2x9 z2x10 z2k0 y3_ := by kernel_rfl
theorem q132_0_r (k : Nat) (z2x0 : List Int) (z2x1 z2x2 z2x3 z2x4 z2x5 z2x6 z2x7 z2x8 z2x9 z2x10 : Int) (z2k0 : Nat) (y3_ : curfewref08_Fit_l0_Y) : curfewref08_Fit_l0 (k + 1) (z2x0, z2x1, z2x2, z2x3, z2x4, z2x5, z2x6, z2x7, z2x8, z2x9, z2x10) y3_ → curfewref08_Fit_l0_F ipT (fun z y => curfewref08_Fit_l0 k z y) z2x0 z2x1 z2x2 z2x3 z2x4 z2x5 z2x6 z2x7 z2x8 z2x9 z2x10 z2k0 y3_ := by
  unfold curfewref08_Fit_l0_F
  intro h; simp only [curfewref08_Fit_l0] at h; revert h
  refine MI.run ?_
  repeat' (first | intro _ | with_reducible constructor)
theorem q132_0_ok (n : Nat) : Owed q132_cx okT 132 q132_lp (n + 1) q132_0_lp := owed_rnd (lk := q132_0_k) (l := curfewref08_Fit_l0) (fun z y h => h) fun k z q c y h => Eq.mpr (q132_0_t n k z.1 z.2.1 z.2.2.1 z.2.2.2.1 z.2.2.2.2.1 z.2.2.2.2.2.1 z.2.2.2.2.2.2.1 z.2.2.2.2.2.2.2.1 z.2.2.2.2.2.2.2.2.1 z.2.2.2.2.2.2.2.2.2.1 z.2.2.2.2.2.2.2.2.2.2 c y) (q132_0_r k z.1 z.2.1 z.2.2.1 z.2.2.2.1 z.2.2.2.2.1 z.2.2.2.2.2.1 z.2.2.2.2.2.2.1 z.2.2.2.2.2.2.2.1 z.2.2.2.2.2.2.2.2.1 z.2.2.2.2.2.2.2.2.2.1 z.2.2.2.2.2.2.2.2.2.2 c y h)
def curfewref08_Fit_F (i : Ip) (a0 a1 a2 a3 a4 a5 a6 : Int) (y : List Int) : Prop :=
  (∃ y1 : Int × Int × Int, (curfewref04_At_R a5 y1) ∧ (i.lo none q132_0_body (i.te [(V.row 2 1 0 0)] [] (∃ y9 : curfewref08_Fit_l0_Y, curfewref08_Fit_l0_L ([], a0, a1, a2, a3, a4, (y1.1), (y1.2.1), (y1.2.2), a6, a5) y9 ∧ (i.cq [.nat] fun y9c => (i.tr (true && ((Nat.beq (List.length y9) (List.length y9)) && (Nat.beq y9c y9c))) (band rfl (band (Nat.beq_refl _) (Nat.beq_refl _))) (y9 = y)))))))
def curfewref08_Fit_R (a0 a1 a2 a3 a4 a5 a6 : Int) (y : List Int) : Prop :=
  (∃ y1 : Int × Int × Int, (curfewref04_At_R a5 y1) ∧ (∃ y9 : curfewref08_Fit_l0_Y, curfewref08_Fit_l0_L ([], a0, a1, a2, a3, a4, (y1.1), (y1.2.1), (y1.2.2), a6, a5) y9 ∧ (y9 = y)))
theorem q132_t (a0 a1 a2 a3 a4 a5 a6 : Int) (y : List Int) : acall q132_cx okT q132_lp 60 (.fn 132 [] []) [(V.agg [(vu a0), (vu a1), (vu a2), (vu a3), (vu a4)]), (vi a5), (vi a6)] [] (leafK B132 y) = curfewref08_Fit_F ipT a0 a1 a2 a3 a4 a5 a6 y := by kernel_rfl
theorem q132_r (a0 a1 a2 a3 a4 a5 a6 : Int) (y : List Int) : curfewref08_Fit_R a0 a1 a2 a3 a4 a5 a6 y → curfewref08_Fit_F ipT a0 a1 a2 a3 a4 a5 a6 y := by
  unfold curfewref08_Fit_R curfewref08_Fit_F
  refine MI.run ?_
  repeat' (first | intro _ | with_reducible constructor)
abbrev r132 (x : A132.den) (y : B132.den) : Prop := curfewref08_Fit_R (x.1.1) (x.1.2.1) (x.1.2.2.1) (x.1.2.2.2.1) (x.1.2.2.2.2) (x.2.1) (x.2.2) y
theorem curfewref08_Fit_ok : FxOk Tryz.prog gsT 132 A132 B132 r132 := fo (c := q132_cx) rfl rfl (Fns_assoc ⟨b132, curfewref04_At_ok, curfewref08_fits_ok, curfewref08_behind_ok, trivial⟩) (lp := q132_lp) (n := 60) (LpOk_tab ⟨q132_0_ok, trivial⟩) (enters Tryz.func132 (by kernel_rfl) rfl) (fun y => ⟨_, rfl⟩) fun x y h => Eq.mpr (q132_t _ _ _ _ _ _ _ y) (q132_r _ _ _ _ _ _ _ y h)
def e132 : Nat × Ent := (132, .fx A132 B132 r132)
noncomputable def c66 : Nat × Ent := (66, .body Tryz.f66)
theorem b66 {c : Cx} : EntOk Tryz.prog c 66 (.body Tryz.f66) := body_ent Tryz.func66 (by kernel_rfl) (by kernel_rfl)
abbrev A66 : RT := (.one (.agg (.cons (.int .u64) (.cons (.int .u64) (.cons (.int .u64) (.cons (.int .u64) (.one (.int .u64))))))))
abbrev B66 : RT := .bool
noncomputable def q66_cx : Cx := ⟨tyT, [c66, e132], gsT, eqT, false⟩
def curfewref08_Ever_F (i : Ip) (a0 a1 a2 a3 a4 : Int) (y : Bool) : Prop :=
  (∃ y1 : List Int, (curfewref08_Fit_R a0 a1 a2 a3 a4 0 2922 y1) ∧ (i.cp (List.length y1) fun c2 hc2 => ((decide ((((List.length y1) : Nat) : Int) > 0)) = y)))
def curfewref08_Ever_R (a0 a1 a2 a3 a4 : Int) (y : Bool) : Prop :=
  (∃ y1 : List Int, (curfewref08_Fit_R a0 a1 a2 a3 a4 0 2922 y1) ∧ ((decide ((((List.length y1) : Nat) : Int) > 0)) = y))
theorem q66_t (a0 a1 a2 a3 a4 : Int) (y : Bool) : acall q66_cx okT lpT 60 (.fn 66 [] []) [(V.agg [(vu a0), (vu a1), (vu a2), (vu a3), (vu a4)])] [] (leafK B66 y) = curfewref08_Ever_F ipT a0 a1 a2 a3 a4 y := by kernel_rfl
theorem q66_r (a0 a1 a2 a3 a4 : Int) (y : Bool) : curfewref08_Ever_R a0 a1 a2 a3 a4 y → curfewref08_Ever_F ipT a0 a1 a2 a3 a4 y := by
  unfold curfewref08_Ever_R curfewref08_Ever_F
  refine MI.run ?_
  repeat' (first | intro _ | with_reducible constructor)
abbrev r66 (x : A66.den) (y : B66.den) : Prop := curfewref08_Ever_R (x.1) (x.2.1) (x.2.2.1) (x.2.2.2.1) (x.2.2.2.2) y
theorem curfewref08_Ever_ok : FxOk Tryz.prog gsT 66 A66 B66 r66 := fo (c := q66_cx) rfl rfl (Fns_assoc ⟨b66, curfewref08_Fit_ok, trivial⟩) (n := 60) (lp_ok) (enters Tryz.func66 (by kernel_rfl) rfl) (fun y => ⟨_, rfl⟩) fun x y h => Eq.mpr (q66_t _ _ _ _ _ y) (q66_r _ _ _ _ _ y h)
def e66 : Nat × Ent := (66, .fx A66 B66 r66)
noncomputable def c19 : Nat × Ent := (19, .body Tryz.f19)
theorem b19 {c : Cx} : EntOk Tryz.prog c 19 (.body Tryz.f19) := body_ent Tryz.func19 (by kernel_rfl) (by kernel_rfl)
abbrev A19 : RT := (.one (.agg (.cons (.int .u32) (.cons .bool (.cons (.int .u64) (.cons (.int .u64) (.cons (.int .u64) (.cons (.int .u64) (.cons (.int .u64) (.cons (.int .i64) (.cons (.int .i64) (.cons (.int .i64) (.one (.int .i64))))))))))))))
abbrev B19 : RT := (.int .i64)
noncomputable def q19_cx : Cx := ⟨tyT, [c19, e52, e64, e65, e66], gsT, eqT, false⟩
def curfewref10_Check_R (a0 : Int) (a1 : Bool) (a2 a3 a4 a5 a6 a7 a8 a9 a10 : Int) (y : Int) : Prop :=
  (∃ y1 : Bool, (curfewref10_plain_R a0 a8 a9 a10 y1) ∧ (br (!y1) (200 = y) (br a1 (∃ y2 : Bool, (curfewref10_time_R a7 y2) ∧ (br (!y2) (200 = y) (br (!((a2 == 0) && ((a3 == 0) && ((a4 == 0) && ((a5 == 0) && ((a6 == 0) && true)))))) (200 = y) (0 = y)))) (br (a7 != 0) (200 = y) (∃ y3 : Bool, (curfewref07_Right_R a2 a3 a4 a5 a6 y3) ∧ (br (!y3) (200 = y) (∃ y4 : Bool, (curfewref08_Ever_R a2 a3 a4 a5 a6 y4) ∧ (br (!y4) (201 = y) (0 = y)))))))))
theorem q19_t (a0 : Int) (a1 : Bool) (a2 a3 a4 a5 a6 a7 a8 a9 a10 : Int) (y : Int) : acall q19_cx okT lpT 60 (.fn 19 [] []) [(V.agg [(V.int .u32 a0), (vb a1), (vu a2), (vu a3), (vu a4), (vu a5), (vu a6), (vi a7), (vi a8), (vi a9), (vi a10)])] [] (leafK B19 y) = curfewref10_Check_R a0 a1 a2 a3 a4 a5 a6 a7 a8 a9 a10 y := by kernel_rfl
abbrev r19 (x : A19.den) (y : B19.den) : Prop := curfewref10_Check_R (x.1) (x.2.1) (x.2.2.1) (x.2.2.2.1) (x.2.2.2.2.1) (x.2.2.2.2.2.1) (x.2.2.2.2.2.2.1) (x.2.2.2.2.2.2.2.1) (x.2.2.2.2.2.2.2.2.1) (x.2.2.2.2.2.2.2.2.2.1) (x.2.2.2.2.2.2.2.2.2.2) y
theorem curfewref10_Check_ok : FxOk Tryz.prog gsT 19 A19 B19 r19 := fo (c := q19_cx) rfl rfl (Fns_assoc ⟨b19, curfewref07_Right_ok, curfewref10_plain_ok, curfewref10_time_ok, curfewref08_Ever_ok, trivial⟩) (n := 60) (lp_ok) (enters Tryz.func19 (by kernel_rfl) rfl) (fun y => ⟨_, rfl⟩) fun x y h => Eq.mpr (q19_t _ _ _ _ _ _ _ _ _ _ _ y) h
def e19 : Nat × Ent := (19, .fx A19 B19 r19)
noncomputable def c21 : Nat × Ent := (21, .body Tryz.f21)
theorem b21 {c : Cx} : EntOk Tryz.prog c 21 (.body Tryz.f21) := body_ent Tryz.func21 (by kernel_rfl) (by kernel_rfl)
noncomputable def c190 : Nat × Ent := (190, .body Tryz.f190)
theorem b190 {c : Cx} : EntOk Tryz.prog c 190 (.body Tryz.f190) := body_ent Tryz.func190 (by kernel_rfl) (by kernel_rfl)
noncomputable def c192 : Nat × Ent := (192, .body Tryz.f192)
theorem b192 {c : Cx} : EntOk Tryz.prog c 192 (.body Tryz.f192) := body_ent Tryz.func192 (by kernel_rfl) (by kernel_rfl)
abbrev A21 : RT := (.cons (.agg (.cons (.int .u32) (.cons .bool (.cons (.int .u64) (.cons (.int .u64) (.cons (.int .u64) (.cons (.int .u64) (.cons (.int .u64) (.cons (.int .i64) (.cons (.int .i64) (.cons (.int .i64) (.one (.int .i64))))))))))))) (.one (.int .i64)))
abbrev B21 : RT := (.tup (.cons (.int .i64) (.one .bool)))
noncomputable def q21_cx : Cx := ⟨tyT, [c21, e28, c67, c133, c134, c188, c190, c192, e193], gsT, eqT, false⟩
def job_Latest_R (a0 : Int) (a1 : Bool) (a2 a3 a4 a5 a6 a7 a8 a9 a10 a11 : Int) (y : Int × Bool) : Prop :=
  (∃ y1 : Int, (job_Check_R a0 a1 a2 a3 a4 a5 a6 a7 a8 a9 a10 y1) ∧ (br (y1 != 0) ((0, false) = y) (br a1 (br (!(decide (a7 ≤ a11))) ((0, false) = y) ((a7, true) = y)) (∃ y2 : Int × Bool, (next_Last_R a2 a3 a4 a5 a6 a11 y2) ∧ (y2 = y)))))
theorem q21_t (a0 : Int) (a1 : Bool) (a2 a3 a4 a5 a6 a7 a8 a9 a10 a11 : Int) (y : Int × Bool) : acall q21_cx okT lpT 60 (.fn 21 [] []) [(V.agg [(V.int .u32 a0), (vb a1), (vu a2), (vu a3), (vu a4), (vu a5), (vu a6), (vi a7), (vi a8), (vi a9), (vi a10)]), (vi a11)] [] (leafK B21 y) = job_Latest_R a0 a1 a2 a3 a4 a5 a6 a7 a8 a9 a10 a11 y := by kernel_rfl
abbrev r21 (x : A21.den) (y : B21.den) : Prop := job_Latest_R (x.1.1) (x.1.2.1) (x.1.2.2.1) (x.1.2.2.2.1) (x.1.2.2.2.2.1) (x.1.2.2.2.2.2.1) (x.1.2.2.2.2.2.2.1) (x.1.2.2.2.2.2.2.2.1) (x.1.2.2.2.2.2.2.2.2.1) (x.1.2.2.2.2.2.2.2.2.2.1) (x.1.2.2.2.2.2.2.2.2.2.2) (x.2) y
theorem job_Latest_ok : FxOk Tryz.prog gsT 21 A21 B21 r21 := fo (c := q21_cx) rfl rfl (Fns_assoc ⟨b21, job_Check_ok, b67, b133, b134, b188, b190, b192, next_Last_ok, trivial⟩) (n := 60) (lp_ok) (enters Tryz.func21 (by kernel_rfl) rfl) (fun y => ⟨_, rfl⟩) fun x y h => Eq.mpr (q21_t _ _ _ _ _ _ _ _ _ _ _ _ y) h
def e21 : Nat × Ent := (21, .fx A21 B21 r21)
noncomputable def c135 : Nat × Ent := (135, .body Tryz.f135)
theorem b135 {c : Cx} : EntOk Tryz.prog c 135 (.body Tryz.f135) := body_ent Tryz.func135 (by kernel_rfl) (by kernel_rfl)
abbrev A135 : RT := (.one (.int .i64))
abbrev B135 : RT := (.int .i64)
noncomputable def q135_cx : Cx := ⟨tyT, [c135], gsT, eqT, false⟩
def curfewref08_Day_R (a0 : Int) (y : Int) : Prop :=
  (br (decide (a0 < 0)) (0 = y) (br (decide (a0 > 253402300799)) (2932896 = y) ((IntKind.wrap .i64 (Int.tdiv a0 86400)) = y)))
theorem q135_t (a0 : Int) (y : Int) : acall q135_cx okT lpT 60 (.fn 135 [] []) [(vi a0)] [] (leafK B135 y) = curfewref08_Day_R a0 y := by kernel_rfl
abbrev r135 (x : A135.den) (y : B135.den) : Prop := curfewref08_Day_R x y
theorem curfewref08_Day_ok : FxOk Tryz.prog gsT 135 A135 B135 r135 := fo (c := q135_cx) rfl rfl (Fns_assoc ⟨b135, trivial⟩) (n := 60) (lp_ok) (enters Tryz.func135 (by kernel_rfl) rfl) (fun y => ⟨_, rfl⟩) fun x y h => Eq.mpr (q135_t _ y) h
def e135 : Nat × Ent := (135, .fx A135 B135 r135)
noncomputable def c138 : Nat × Ent := (138, .body Tryz.f138)
theorem b138 {c : Cx} : EntOk Tryz.prog c 138 (.body Tryz.f138) := body_ent Tryz.func138 (by kernel_rfl) (by kernel_rfl)
abbrev A138 : RT := (.cons (.agg (.cons (.int .u64) (.cons (.int .u64) (.cons (.int .u64) (.cons (.int .u64) (.one (.int .u64))))))) (.one (.int .i64)))
abbrev B138 : RT := (.nw (.int .i64) 2)
noncomputable def q138_cx : Cx := ⟨tyT, [e119, c138], gsT, eqT, false⟩
noncomputable def q138_0_body : Code := subC [1, 1, 0, 1, 0, 0, 1, 1, 0, 0, 1, 1, 0, 0] (bodyOf Tryz.f138)
abbrev curfewref08_On_l0_Z : Type := List Int × List Int × List Int × Int × Int × Int × Int × Int × Int × Int × Int × Int × Int × Int
abbrev curfewref08_On_l0_Y : Type := List Int
noncomputable def q138_0_k : LK := ⟨4, ⟨[(1, .w 8), (2, .ptr 0 0), (5, .row 4 1 (.z 2) (.c 0)), (7, .w 9), (12, .row 1 1 (.z 0) (.q 0)), (13, .w 10), (14, .w 11), (20, .row 3 1 (.z 1) (.q 1)), (21, .w 12), (22, .w 13)], [.cells [.w 3, .w 4, .w 5, .w 6, .w 7], .row (.int .i64) (.z 0) 3 (.q 0), .dead, .row (.int .i64) (.z 1) 3 (.q 1), .row (.int .i64) (.z 2) 2 (.c 0)], []⟩, [.sl (.int .i64), .sl (.int .i64), .sl (.int .i64), .int .u64, .int .u64, .int .u64, .int .u64, .int .u64, .int .i64, .int .i64, .int .i64, .int .i64, .int .i64, .int .i64], [.nat, .nat], [.nat], [0, 3, 4, 5, 6, 7, 8, 10, 11], [⟨(.exit 2), ⟨[(1, .e (.p 6)), (2, .ptr 0 0), (5, .row 4 1 (.z 0) (.c 0)), (12, .row 1 1 (.p 0) (.p 9)), (13, .e (.p 7)), (14, .e (.p 8))], [.cells [.e (.p 1), .e (.p 2), .e (.p 3), .e (.p 4), .e (.p 5)], .row (.int .i64) (.p 0) 3 (.p 9), .dead, .dead, .row (.int .i64) (.z 0) 2 (.c 0)], []⟩, [.sl (.int .i64)], [.nat], none⟩]⟩
def curfewref08_On_l0_F (i : Ip) (l : curfewref08_On_l0_Z → curfewref08_On_l0_Y → Prop) (z7x0 z7x1 z7x2 : List Int) (z7x3 z7x4 z7x5 z7x6 z7x7 z7x8 z7x9 z7x10 z7x11 z7x12 z7x13 : Int) (z7q0 z7q1 z7k0 : Nat) (y8_ : curfewref08_On_l0_Y) : Prop :=
  (br (decide (z7x13 < z7x12)) (i.rq ((decide (0 ≤ z7x13)) && (decide (z7x13 < (((List.length z7x1) : Nat) : Int)))) (i.rq (Nat.blt (Int.toNat z7x13) (List.length z7x1)) (i.r2 (Nat.ble ((List.length (z7x2 ++ [(IntKind.wrap .i64 ((IntKind.wrap .i64 ((IntKind.wrap .i64 (z7x8 * 86400)) + (IntKind.wrap .i64 (z7x9 * 3600)))) + (IntKind.wrap .i64 ((List.getD z7x1 (Int.toNat z7x13) 0) * 60))))])) * 9) 140737488355328) (((((true && true) && true) && (Nat.beq (List.length z7x2) (List.length z7x2))) && (Nat.beq z7k0 z7k0)) && (Nat.ble ((List.length (z7x2 ++ [(IntKind.wrap .i64 ((IntKind.wrap .i64 ((IntKind.wrap .i64 (z7x8 * 86400)) + (IntKind.wrap .i64 (z7x9 * 3600)))) + (IntKind.wrap .i64 ((List.getD z7x1 (Int.toNat z7x13) 0) * 60))))])) * 9) 140737488355328)) (fun q => (band (band (band (band (band rfl rfl) rfl) (Nat.beq_refl _)) (Nat.beq_refl _)) q)) (i.cp (List.length (z7x2 ++ [(IntKind.wrap .i64 ((IntKind.wrap .i64 ((IntKind.wrap .i64 (z7x8 * 86400)) + (IntKind.wrap .i64 (z7x9 * 3600)))) + (IntKind.wrap .i64 ((List.getD z7x1 (Int.toNat z7x13) 0) * 60))))])) fun c9 hc9 => (i.te [(V.row 4 1 (List.length (z7x2 ++ [(IntKind.wrap .i64 ((IntKind.wrap .i64 ((IntKind.wrap .i64 (z7x8 * 86400)) + (IntKind.wrap .i64 (z7x9 * 3600)))) + (IntKind.wrap .i64 ((List.getD z7x1 (Int.toNat z7x13) 0) * 60))))])) c9), (V.row 1 1 (List.length z7x0) z7q0), (V.row 3 1 (List.length z7x1) z7q1)] [] (i.tq [(V.sl (.int .i64) z7x0 none), (vu z7x3), (vu z7x4), (vu z7x5), (vu z7x6), (vu z7x7), (vi z7x8), (vi z7x10), (vi z7x11), (V.yld z7q0), (V.yld z7q1)] (l (z7x0, z7x1, (z7x2 ++ [(IntKind.wrap .i64 ((IntKind.wrap .i64 ((IntKind.wrap .i64 (z7x8 * 86400)) + (IntKind.wrap .i64 (z7x9 * 3600)))) + (IntKind.wrap .i64 ((List.getD z7x1 (Int.toNat z7x13) 0) * 60))))]), z7x3, z7x4, z7x5, z7x6, z7x7, z7x8, z7x9, z7x10, z7x11, z7x12, (IntKind.wrap .i64 (z7x13 + 1))) y8_))))))) (i.te [(V.sl (.int .i64) z7x0 none), (V.yld z7q0), (vu z7x3), (vu z7x4), (vu z7x5), (vu z7x6), (vu z7x7), (vi z7x8), (V.row 4 1 (List.length z7x2) z7k0), (V.row 1 1 (List.length z7x0) z7q0), (vi z7x10), (vi z7x11)] [] (z7x2 = y8_)))
def curfewref08_On_l0 : Nat → curfewref08_On_l0_Z → curfewref08_On_l0_Y → Prop
  | 0, _, _ => False
  | k + 1, (z7x0, z7x1, z7x2, z7x3, z7x4, z7x5, z7x6, z7x7, z7x8, z7x9, z7x10, z7x11, z7x12, z7x13), y8_ => (br (decide (z7x13 < z7x12)) (req ((decide (0 ≤ z7x13)) && (decide (z7x13 < (((List.length z7x1) : Nat) : Int)))) (req (Nat.blt (Int.toNat z7x13) (List.length z7x1)) (req (Nat.ble ((List.length (z7x2 ++ [(IntKind.wrap .i64 ((IntKind.wrap .i64 ((IntKind.wrap .i64 (z7x8 * 86400)) + (IntKind.wrap .i64 (z7x9 * 3600)))) + (IntKind.wrap .i64 ((List.getD z7x1 (Int.toNat z7x13) 0) * 60))))])) * 9) 140737488355328) (curfewref08_On_l0 k (z7x0, z7x1, (z7x2 ++ [(IntKind.wrap .i64 ((IntKind.wrap .i64 ((IntKind.wrap .i64 (z7x8 * 86400)) + (IntKind.wrap .i64 (z7x9 * 3600)))) + (IntKind.wrap .i64 ((List.getD z7x1 (Int.toNat z7x13) 0) * 60))))]), z7x3, z7x4, z7x5, z7x6, z7x7, z7x8, z7x9, z7x10, z7x11, z7x12, (IntKind.wrap .i64 (z7x13 + 1))) y8_)))) (z7x2 = y8_))
def curfewref08_On_l0_L (z : curfewref08_On_l0_Z) (y : curfewref08_On_l0_Y) : Prop := ∃ k, curfewref08_On_l0 k z y
noncomputable def q138_0_lp : Lp := .auto none q138_0_body (loopK q138_0_k fun z y => ∃ k, curfewref08_On_l0 k z y)
noncomputable def q138_1_body : Code := subC [1, 1, 0, 1, 0, 0] (bodyOf Tryz.f138)
abbrev curfewref08_On_l1_Z : Type := List Int × List Int × Int × Int × Int × Int × Int × Int × Int × Int
abbrev curfewref08_On_l1_Y : Type := List Int
noncomputable def q138_1_k : LK := ⟨2, ⟨[(1, .w 7), (2, .ptr 0 0), (5, .row 2 1 (.z 1) (.c 0)), (12, .row 1 1 (.z 0) (.q 0)), (13, .w 8), (14, .w 9)], [.cells [.w 2, .w 3, .w 4, .w 5, .w 6], .row (.int .i64) (.z 0) 3 (.q 0), .row (.int .i64) (.z 1) 2 (.c 0)], []⟩, [.sl (.int .i64), .sl (.int .i64), .int .u64, .int .u64, .int .u64, .int .u64, .int .u64, .int .i64, .int .i64, .int .i64], [.nat], [.nat], [], [⟨(.exit 0), ⟨[(5, .row 2 1 (.z 0) (.c 0))], [.dead, .dead, .row (.int .i64) (.z 0) 2 (.c 0)], []⟩, [.sl (.int .i64)], [.nat], none⟩]⟩
def curfewref08_On_l1_F (i : Ip) (l : curfewref08_On_l1_Z → curfewref08_On_l1_Y → Prop) (z3x0 z3x1 : List Int) (z3x2 z3x3 z3x4 z3x5 z3x6 z3x7 z3x8 z3x9 : Int) (z3q0 z3k0 : Nat) (y4_ : curfewref08_On_l1_Y) : Prop :=
  (br (decide (z3x9 < z3x8)) (i.rq ((decide (0 ≤ z3x9)) && (decide (z3x9 < (((List.length z3x0) : Nat) : Int)))) (i.rq (Nat.blt (Int.toNat z3x9) (List.length z3x0)) (∃ y5 : List Int, (curfewref01_All_R z3x2 y5) ∧ (i.cp (List.length y5) fun c6 hc6 => (i.lo none q138_0_body (i.te [(V.row 4 1 (List.length z3x1) z3k0), (V.row 1 1 (List.length z3x0) z3q0), (V.row 3 1 (List.length y5) c6)] [] (∃ y11 : curfewref08_On_l0_Y, curfewref08_On_l0_L (z3x0, y5, z3x1, z3x2, z3x3, z3x4, z3x5, z3x6, z3x7, (List.getD z3x0 (Int.toNat z3x9) 0), z3x8, z3x9, (((List.length y5) : Nat) : Int), 0) y11 ∧ (i.cq [.nat] fun y11c => (i.te [(V.row 2 1 (List.length y11) y11c), (V.row 1 1 (List.length z3x0) z3q0)] [] (i.tq [(V.yld z3q0)] (l (z3x0, y11, z3x2, z3x3, z3x4, z3x5, z3x6, z3x7, z3x8, (IntKind.wrap .i64 (z3x9 + 1))) y4_))))))))))) (i.te [(V.row 2 1 (List.length z3x1) z3k0)] [] (z3x1 = y4_)))
def curfewref08_On_l1 : Nat → curfewref08_On_l1_Z → curfewref08_On_l1_Y → Prop
  | 0, _, _ => False
  | k + 1, (z3x0, z3x1, z3x2, z3x3, z3x4, z3x5, z3x6, z3x7, z3x8, z3x9), y4_ => (br (decide (z3x9 < z3x8)) (req ((decide (0 ≤ z3x9)) && (decide (z3x9 < (((List.length z3x0) : Nat) : Int)))) (req (Nat.blt (Int.toNat z3x9) (List.length z3x0)) (∃ y5 : List Int, (curfewref01_All_R z3x2 y5) ∧ (∃ y11 : curfewref08_On_l0_Y, curfewref08_On_l0_L (z3x0, y5, z3x1, z3x2, z3x3, z3x4, z3x5, z3x6, z3x7, (List.getD z3x0 (Int.toNat z3x9) 0), z3x8, z3x9, (((List.length y5) : Nat) : Int), 0) y11 ∧ (curfewref08_On_l1 k (z3x0, y11, z3x2, z3x3, z3x4, z3x5, z3x6, z3x7, z3x8, (IntKind.wrap .i64 (z3x9 + 1))) y4_))))) (z3x1 = y4_))
def curfewref08_On_l1_L (z : curfewref08_On_l1_Z) (y : curfewref08_On_l1_Y) : Prop := ∃ k, curfewref08_On_l1 k z y
noncomputable def q138_1_lp : Lp := .auto none q138_1_body (loopK q138_1_k fun z y => ∃ k, curfewref08_On_l1 k z y)
noncomputable def q138_lp : Nat → FuncId → Nat → Nat → Lp := lpTab [(138, 6, 4, 0, q138_0_lp), (138, 3, 2, 1, q138_1_lp)]
theorem q138_0_t (n k : Nat) (z7x0 z7x1 z7x2 : List Int) (z7x3 z7x4 z7x5 z7x6 z7x7 z7x8 z7x9 z7x10 z7x11 z7x12 z7x13 : Int) (z7q0 z7q1 z7k0 : Nat) (y8_ : curfewref08_On_l0_Y) : rnd q138_cx okT q138_lp (n + 0) 138 none q138_0_body q138_0_k (curfewref08_On_l0 k) (z7x0, z7x1, z7x2, z7x3, z7x4, z7x5, z7x6, z7x7, z7x8, z7x9, z7x10, z7x11, z7x12, z7x13) (z7q0, z7q1) z7k0 y8_ = curfewref08_On_l0_F ipT (fun z y => curfewref08_On_l0 k z y) z7x0 z7x1 z7x2 z7x3 z7x4 z7x5 z7x6 z7x7 z7x8 z7x9 z7x10 z7x11 z7x12 z7x13 z7q0 z7q1 z7k0 y8_ := by kernel_rfl
theorem q138_0_r (k : Nat) (z7x0 z7x1 z7x2 : List Int) (z7x3 z7x4 z7x5 z7x6 z7x7 z7x8 z7x9 z7x10 z7x11 z7x12 z7x13 : Int) (z7q0 z7q1 z7k0 : Nat) (y8_ : curfewref08_On_l0_Y) : curfewref08_On_l0 (k + 1) (z7x0, z7x1, z7x2, z7x3, z7x4, z7x5, z7x6, z7x7, z7x8, z7x9, z7x10, z7x11, z7x12, z7x13) y8_ → curfewref08_On_l0_F ipT (fun z y => curfewref08_On_l0 k z y) z7x0 z7x1 z7x2 z7x3 z7x4 z7x5 z7x6 z7x7 z7x8 z7x9 z7x10 z7x11 z7x12 z7x13 z7q0 z7q1 z7k0 y8_ := by
  unfold curfewref08_On_l0_F
  intro h; simp only [curfewref08_On_l0] at h; revert h
  refine MI.run ?_
  repeat' (first | intro _ | with_reducible constructor)
theorem q138_0_ok (n : Nat) : Owed q138_cx okT 138 q138_lp (n + 0) q138_0_lp := owed_rnd (lk := q138_0_k) (l := curfewref08_On_l0) (fun z y h => h) fun k z q c y h => Eq.mpr (q138_0_t n k z.1 z.2.1 z.2.2.1 z.2.2.2.1 z.2.2.2.2.1 z.2.2.2.2.2.1 z.2.2.2.2.2.2.1 z.2.2.2.2.2.2.2.1 z.2.2.2.2.2.2.2.2.1 z.2.2.2.2.2.2.2.2.2.1 z.2.2.2.2.2.2.2.2.2.2.1 z.2.2.2.2.2.2.2.2.2.2.2.1 z.2.2.2.2.2.2.2.2.2.2.2.2.1 z.2.2.2.2.2.2.2.2.2.2.2.2.2 q.1 q.2 c y) (q138_0_r k z.1 z.2.1 z.2.2.1 z.2.2.2.1 z.2.2.2.2.1 z.2.2.2.2.2.1 z.2.2.2.2.2.2.1 z.2.2.2.2.2.2.2.1 z.2.2.2.2.2.2.2.2.1 z.2.2.2.2.2.2.2.2.2.1 z.2.2.2.2.2.2.2.2.2.2.1 z.2.2.2.2.2.2.2.2.2.2.2.1 z.2.2.2.2.2.2.2.2.2.2.2.2.1 z.2.2.2.2.2.2.2.2.2.2.2.2.2 q.1 q.2 c y h)
theorem q138_1_t (n k : Nat) (z3x0 z3x1 : List Int) (z3x2 z3x3 z3x4 z3x5 z3x6 z3x7 z3x8 z3x9 : Int) (z3q0 z3k0 : Nat) (y4_ : curfewref08_On_l1_Y) : rnd q138_cx okT q138_lp (n + 1) 138 none q138_1_body q138_1_k (curfewref08_On_l1 k) (z3x0, z3x1, z3x2, z3x3, z3x4, z3x5, z3x6, z3x7, z3x8, z3x9) z3q0 z3k0 y4_ = curfewref08_On_l1_F ipT (fun z y => curfewref08_On_l1 k z y) z3x0 z3x1 z3x2 z3x3 z3x4 z3x5 z3x6 z3x7 z3x8 z3x9 z3q0 z3k0 y4_ := by kernel_rfl
theorem q138_1_r (k : Nat) (z3x0 z3x1 : List Int) (z3x2 z3x3 z3x4 z3x5 z3x6 z3x7 z3x8 z3x9 : Int) (z3q0 z3k0 : Nat) (y4_ : curfewref08_On_l1_Y) : curfewref08_On_l1 (k + 1) (z3x0, z3x1, z3x2, z3x3, z3x4, z3x5, z3x6, z3x7, z3x8, z3x9) y4_ → curfewref08_On_l1_F ipT (fun z y => curfewref08_On_l1 k z y) z3x0 z3x1 z3x2 z3x3 z3x4 z3x5 z3x6 z3x7 z3x8 z3x9 z3q0 z3k0 y4_ := by
  unfold curfewref08_On_l1_F
  intro h; simp only [curfewref08_On_l1] at h; revert h
  refine MI.run ?_
  repeat' (first | intro _ | with_reducible constructor)
theorem q138_1_ok (n : Nat) : Owed q138_cx okT 138 q138_lp (n + 1) q138_1_lp := owed_rnd (lk := q138_1_k) (l := curfewref08_On_l1) (fun z y h => h) fun k z q c y h => Eq.mpr (q138_1_t n k z.1 z.2.1 z.2.2.1 z.2.2.2.1 z.2.2.2.2.1 z.2.2.2.2.2.1 z.2.2.2.2.2.2.1 z.2.2.2.2.2.2.2.1 z.2.2.2.2.2.2.2.2.1 z.2.2.2.2.2.2.2.2.2 q c y) (q138_1_r k z.1 z.2.1 z.2.2.1 z.2.2.2.1 z.2.2.2.2.1 z.2.2.2.2.2.1 z.2.2.2.2.2.2.1 z.2.2.2.2.2.2.2.1 z.2.2.2.2.2.2.2.2.1 z.2.2.2.2.2.2.2.2.2 q c y h)
def curfewref08_On_F (i : Ip) (a0 a1 a2 a3 a4 a5 : Int) (y : List Int) : Prop :=
  (∃ y1 : List Int, (curfewref01_All_R a1 y1) ∧ (i.cp (List.length y1) fun c2 hc2 => (i.lo none q138_1_body (i.te [(V.row 2 1 0 0), (V.row 1 1 (List.length y1) c2)] [] (∃ y13 : curfewref08_On_l1_Y, curfewref08_On_l1_L (y1, [], a0, a1, a2, a3, a4, a5, (((List.length y1) : Nat) : Int), 0) y13 ∧ (i.cq [.nat] fun y13c => (i.tr (true && ((Nat.beq (List.length y13) (List.length y13)) && (Nat.beq y13c y13c))) (band rfl (band (Nat.beq_refl _) (Nat.beq_refl _))) (y13 = y))))))))
def curfewref08_On_R (a0 a1 a2 a3 a4 a5 : Int) (y : List Int) : Prop :=
  (∃ y1 : List Int, (curfewref01_All_R a1 y1) ∧ (∃ y13 : curfewref08_On_l1_Y, curfewref08_On_l1_L (y1, [], a0, a1, a2, a3, a4, a5, (((List.length y1) : Nat) : Int), 0) y13 ∧ (y13 = y)))
theorem q138_t (a0 a1 a2 a3 a4 a5 : Int) (y : List Int) : acall q138_cx okT q138_lp 60 (.fn 138 [] []) [(V.agg [(vu a0), (vu a1), (vu a2), (vu a3), (vu a4)]), (vi a5)] [] (leafK B138 y) = curfewref08_On_F ipT a0 a1 a2 a3 a4 a5 y := by kernel_rfl
theorem q138_r (a0 a1 a2 a3 a4 a5 : Int) (y : List Int) : curfewref08_On_R a0 a1 a2 a3 a4 a5 y → curfewref08_On_F ipT a0 a1 a2 a3 a4 a5 y := by
  unfold curfewref08_On_R curfewref08_On_F
  refine MI.run ?_
  repeat' (first | intro _ | with_reducible constructor)
abbrev r138 (x : A138.den) (y : B138.den) : Prop := curfewref08_On_R (x.1.1) (x.1.2.1) (x.1.2.2.1) (x.1.2.2.2.1) (x.1.2.2.2.2) (x.2) y
theorem curfewref08_On_ok : FxOk Tryz.prog gsT 138 A138 B138 r138 := fo (c := q138_cx) rfl rfl (Fns_assoc ⟨curfewref01_All_ok, b138, trivial⟩) (lp := q138_lp) (n := 60) (LpOk_tab ⟨q138_0_ok, q138_1_ok, trivial⟩) (enters Tryz.func138 (by kernel_rfl) rfl) (fun y => ⟨_, rfl⟩) fun x y h => Eq.mpr (q138_t _ _ _ _ _ _ y) (q138_r _ _ _ _ _ _ y h)
def e138 : Nat × Ent := (138, .fx A138 B138 r138)
noncomputable def c68 : Nat × Ent := (68, .body Tryz.f68)
theorem b68 {c : Cx} : EntOk Tryz.prog c 68 (.body Tryz.f68) := body_ent Tryz.func68 (by kernel_rfl) (by kernel_rfl)
abbrev A68 : RT := (.cons (.agg (.cons (.int .u64) (.cons (.int .u64) (.cons (.int .u64) (.cons (.int .u64) (.one (.int .u64))))))) (.one (.int .i64)))
abbrev B68 : RT := (.tup (.cons (.int .i64) (.one .bool)))
noncomputable def q68_cx : Cx := ⟨tyT, [c68, e135, e136, e137, e138, e139], gsT, eqT, false⟩
noncomputable def q68_0_body : Code := subC [1, 1, 1, 0, 1, 0, 0, 1, 0, 0, 0, 1, 0, 1, 0, 0] (bodyOf Tryz.f68)
abbrev curfewref08_Next_l0_Z : Type := List Int × Int × Int × Int × Int × Int × Int × Int × Int × Int × Int × Int × Int × Int
abbrev curfewref08_Next_l0_Y : Type := (Int) ⊕ (Unit)
noncomputable def q68_0_k : LK := ⟨3, ⟨[(1, .w 9), (2, .ptr 0 0), (6, .w 10), (7, .ptr 1 0), (8, .w 11), (29, .row 2 1 (.z 0) (.q 0)), (30, .w 12), (31, .w 13)], [.cells [.w 1, .w 2, .w 3, .w 4, .w 5], .cells [.w 6, .w 7, .w 8], .row (.int .i64) (.z 0) 2 (.q 0)], []⟩, [.sl (.int .i64), .int .u64, .int .u64, .int .u64, .int .u64, .int .u64, .int .i64, .int .i64, .int .i64, .int .i64, .int .i64, .int .i64, .int .i64, .int .i64], [.nat], [], [1, 2, 3, 4, 5, 6, 7, 8, 9, 10, 11], [⟨.ret, ⟨[(4, .w 0), (5, .lb true)], [.dead, .dead, .dead], []⟩, [.int .i64], [], none⟩, ⟨(.exit 2), ⟨[(1, .e (.p 8)), (2, .ptr 0 0), (6, .e (.p 9)), (7, .ptr 1 0), (8, .e (.p 10))], [.cells [.e (.p 0), .e (.p 1), .e (.p 2), .e (.p 3), .e (.p 4)], .cells [.e (.p 5), .e (.p 6), .e (.p 7)], .dead], []⟩, [], [], none⟩]⟩
def curfewref08_Next_l0_F (i : Ip) (l : curfewref08_Next_l0_Z → curfewref08_Next_l0_Y → Prop) (z8x0 : List Int) (z8x1 z8x2 z8x3 z8x4 z8x5 z8x6 z8x7 z8x8 z8x9 z8x10 z8x11 z8x12 z8x13 : Int) (z8q0 : Nat) (y9_ : curfewref08_Next_l0_Y) : Prop :=
  (br (decide (z8x13 < z8x12)) (i.rq ((decide (0 ≤ z8x13)) && (decide (z8x13 < (((List.length z8x0) : Nat) : Int)))) (i.rq (Nat.blt (Int.toNat z8x13) (List.length z8x0)) (br (decide ((List.getD z8x0 (Int.toNat z8x13) 0) > z8x9)) ((Sum.inl (List.getD z8x0 (Int.toNat z8x13) 0)) = y9_) (i.te [(V.row 2 1 (List.length z8x0) z8q0)] [] (i.tq [(vu z8x1), (vu z8x2), (vu z8x3), (vu z8x4), (vu z8x5), (vi z8x6), (vi z8x7), (vi z8x8), (vi z8x9), (vi z8x10), (vi z8x11), (V.yld z8q0)] (l (z8x0, z8x1, z8x2, z8x3, z8x4, z8x5, z8x6, z8x7, z8x8, z8x9, z8x10, z8x11, z8x12, (IntKind.wrap .i64 (z8x13 + 1))) y9_)))))) (i.te [(vu z8x1), (vu z8x2), (vu z8x3), (vu z8x4), (vu z8x5), (vi z8x6), (vi z8x7), (vi z8x8), (vi z8x9), (vi z8x10), (vi z8x11)] [] ((Sum.inr ()) = y9_)))
def curfewref08_Next_l0 : Nat → curfewref08_Next_l0_Z → curfewref08_Next_l0_Y → Prop
  | 0, _, _ => False
  | k + 1, (z8x0, z8x1, z8x2, z8x3, z8x4, z8x5, z8x6, z8x7, z8x8, z8x9, z8x10, z8x11, z8x12, z8x13), y9_ => (br (decide (z8x13 < z8x12)) (req ((decide (0 ≤ z8x13)) && (decide (z8x13 < (((List.length z8x0) : Nat) : Int)))) (req (Nat.blt (Int.toNat z8x13) (List.length z8x0)) (br (decide ((List.getD z8x0 (Int.toNat z8x13) 0) > z8x9)) ((Sum.inl (List.getD z8x0 (Int.toNat z8x13) 0)) = y9_) (curfewref08_Next_l0 k (z8x0, z8x1, z8x2, z8x3, z8x4, z8x5, z8x6, z8x7, z8x8, z8x9, z8x10, z8x11, z8x12, (IntKind.wrap .i64 (z8x13 + 1))) y9_)))) ((Sum.inr ()) = y9_))
def curfewref08_Next_l0_L (z : curfewref08_Next_l0_Z) (y : curfewref08_Next_l0_Y) : Prop := ∃ k, curfewref08_Next_l0 k z y
noncomputable def q68_0_lp : Lp := .auto none q68_0_body (loopK q68_0_k fun z y => ∃ k, curfewref08_Next_l0 k z y)
noncomputable def q68_1_body : Code := subC [1, 1, 1, 0, 1, 0, 0] (bodyOf Tryz.f68)
abbrev curfewref08_Next_l1_Z : Type := Int × Int × Int × Int × Int × Int × Int × Int × Int × Int × Int
abbrev curfewref08_Next_l1_Y : Type := (Int) ⊕ (Unit)
noncomputable def q68_1_k : LK := ⟨2, ⟨[(1, .w 8), (2, .ptr 0 0), (6, .w 9), (7, .ptr 1 0), (8, .w 10)], [.cells [.w 0, .w 1, .w 2, .w 3, .w 4], .cells [.w 5, .w 6, .w 7]], []⟩, [.int .u64, .int .u64, .int .u64, .int .u64, .int .u64, .int .i64, .int .i64, .int .i64, .int .i64, .int .i64, .int .i64], [], [], [], [⟨.ret, ⟨[(4, .w 0), (5, .lb true)], [.dead, .dead], []⟩, [.int .i64], [], none⟩, ⟨(.exit 0), ⟨[], [.dead, .dead], []⟩, [], [], none⟩]⟩
def curfewref08_Next_l1_F (i : Ip) (l : curfewref08_Next_l1_Z → curfewref08_Next_l1_Y → Prop) (z3x0 z3x1 z3x2 z3x3 z3x4 z3x5 z3x6 z3x7 z3x8 z3x9 z3x10 : Int) (y4_ : curfewref08_Next_l1_Y) : Prop :=
  (br (decide (z3x10 ≤ (if 2932896 < (IntKind.wrap .i64 (z3x9 + 2922)) then 2932896 else (IntKind.wrap .i64 (z3x9 + 2922))))) (∃ y5 : Bool, (curfewref08_fits_R z3x0 z3x1 z3x2 z3x3 z3x4 z3x5 z3x6 z3x7 z3x10 y5) ∧ (br y5 (∃ y6 : List Int, (curfewref08_On_R z3x0 z3x1 z3x2 z3x3 z3x4 z3x10 y6) ∧ (i.cp (List.length y6) fun c7 hc7 => (i.lo none q68_0_body (i.te [(V.row 2 1 (List.length y6) c7)] [] (∃ y11 : curfewref08_Next_l0_Y, curfewref08_Next_l0_L (y6, z3x0, z3x1, z3x2, z3x3, z3x4, z3x5, z3x6, z3x7, z3x8, z3x9, z3x10, (((List.length y6) : Nat) : Int), 0) y11 ∧ sume (fun y11 => ((Sum.inl y11) = y4_)) (fun y11 => (∃ y12 : Int × Int × Int, (curfewref08_behind_R z3x5 z3x6 z3x7 y12) ∧ (l (z3x0, z3x1, z3x2, z3x3, z3x4, (y12.1), (y12.2.1), (y12.2.2), z3x8, z3x9, (IntKind.wrap .i64 (z3x10 + 1))) y4_))) y11))))) (∃ y13 : Int × Int × Int, (curfewref08_behind_R z3x5 z3x6 z3x7 y13) ∧ (l (z3x0, z3x1, z3x2, z3x3, z3x4, (y13.1), (y13.2.1), (y13.2.2), z3x8, z3x9, (IntKind.wrap .i64 (z3x10 + 1))) y4_)))) ((Sum.inr ()) = y4_))
def curfewref08_Next_l1 : Nat → curfewref08_Next_l1_Z → curfewref08_Next_l1_Y → Prop
  | 0, _, _ => False
  | k + 1, (z3x0, z3x1, z3x2, z3x3, z3x4, z3x5, z3x6, z3x7, z3x8, z3x9, z3x10), y4_ => (br (decide (z3x10 ≤ (if 2932896 < (IntKind.wrap .i64 (z3x9 + 2922)) then 2932896 else (IntKind.wrap .i64 (z3x9 + 2922))))) (∃ y5 : Bool, (curfewref08_fits_R z3x0 z3x1 z3x2 z3x3 z3x4 z3x5 z3x6 z3x7 z3x10 y5) ∧ (br y5 (∃ y6 : List Int, (curfewref08_On_R z3x0 z3x1 z3x2 z3x3 z3x4 z3x10 y6) ∧ (∃ y11 : curfewref08_Next_l0_Y, curfewref08_Next_l0_L (y6, z3x0, z3x1, z3x2, z3x3, z3x4, z3x5, z3x6, z3x7, z3x8, z3x9, z3x10, (((List.length y6) : Nat) : Int), 0) y11 ∧ sume (fun y11 => ((Sum.inl y11) = y4_)) (fun y11 => (∃ y12 : Int × Int × Int, (curfewref08_behind_R z3x5 z3x6 z3x7 y12) ∧ (curfewref08_Next_l1 k (z3x0, z3x1, z3x2, z3x3, z3x4, (y12.1), (y12.2.1), (y12.2.2), z3x8, z3x9, (IntKind.wrap .i64 (z3x10 + 1))) y4_))) y11)) (∃ y13 : Int × Int × Int, (curfewref08_behind_R z3x5 z3x6 z3x7 y13) ∧ (curfewref08_Next_l1 k (z3x0, z3x1, z3x2, z3x3, z3x4, (y13.1), (y13.2.1), (y13.2.2), z3x8, z3x9, (IntKind.wrap .i64 (z3x10 + 1))) y4_)))) ((Sum.inr ()) = y4_))
def curfewref08_Next_l1_L (z : curfewref08_Next_l1_Z) (y : curfewref08_Next_l1_Y) : Prop := ∃ k, curfewref08_Next_l1 k z y
noncomputable def q68_1_lp : Lp := .auto none q68_1_body (loopK q68_1_k fun z y => ∃ k, curfewref08_Next_l1 k z y)
noncomputable def q68_lp : Nat → FuncId → Nat → Nat → Lp := lpTab [(68, 8, 3, 0, q68_0_lp), (68, 4, 2, 1, q68_1_lp)]
theorem q68_0_t (n k : Nat) (z8x0 : List Int) (z8x1 z8x2 z8x3 z8x4 z8x5 z8x6 z8x7 z8x8 z8x9 z8x10 z8x11 z8x12 z8x13 : Int) (z8q0 : Nat) (y9_ : curfewref08_Next_l0_Y) : rnd q68_cx okT q68_lp (n + 0) 68 none q68_0_body q68_0_k (curfewref08_Next_l0 k) (z8x0, z8x1, z8x2, z8x3, z8x4, z8x5, z8x6, z8x7, z8x8, z8x9, z8x10, z8x11, z8x12, z8x13) z8q0 () y9_ = curfewref08_Next_l0_F ipT (fun z y => curfewref08_Next_l0 k z y) z8x0 z8x1 z8x2 z8x3 z8x4 z8x5 z8x6 z8x7 z8x8 z8x9 z8x10 z8x11 z8x12 z8x13 z8q0 y9_ := by kernel_rfl
theorem q68_0_r (k : Nat) (z8x0 : List Int) (z8x1 z8x2 z8x3 z8x4 z8x5 z8x6 z8x7 z8x8 z8x9 z8x10 z8x11 z8x12 z8x13 : Int) (z8q0 : Nat) (y9_ : curfewref08_Next_l0_Y) : curfewref08_Next_l0 (k + 1) (z8x0, z8x1, z8x2, z8x3, z8x4, z8x5, z8x6, z8x7, z8x8, z8x9, z8x10, z8x11, z8x12, z8x13) y9_ → curfewref08_Next_l0_F ipT (fun z y => curfewref08_Next_l0 k z y) z8x0 z8x1 z8x2 z8x3 z8x4 z8x5 z8x6 z8x7 z8x8 z8x9 z8x10 z8x11 z8x12 z8x13 z8q0 y9_ := by
  unfold curfewref08_Next_l0_F
  intro h; simp only [curfewref08_Next_l0] at h; revert h
  refine MI.run ?_
  repeat' (first | intro _ | with_reducible constructor)
theorem q68_0_ok (n : Nat) : Owed q68_cx okT 68 q68_lp (n + 0) q68_0_lp := owed_rnd (lk := q68_0_k) (l := curfewref08_Next_l0) (fun z y h => h) fun k z q c y h => Eq.mpr (q68_0_t n k z.1 z.2.1 z.2.2.1 z.2.2.2.1 z.2.2.2.2.1 z.2.2.2.2.2.1 z.2.2.2.2.2.2.1 z.2.2.2.2.2.2.2.1 z.2.2.2.2.2.2.2.2.1 z.2.2.2.2.2.2.2.2.2.1 z.2.2.2.2.2.2.2.2.2.2.1 z.2.2.2.2.2.2.2.2.2.2.2.1 z.2.2.2.2.2.2.2.2.2.2.2.2.1 z.2.2.2.2.2.2.2.2.2.2.2.2.2 q y) (q68_0_r k z.1 z.2.1 z.2.2.1 z.2.2.2.1 z.2.2.2.2.1 z.2.2.2.2.2.1 z.2.2.2.2.2.2.1 z.2.2.2.2.2.2.2.1 z.2.2.2.2.2.2.2.2.1 z.2.2.2.2.2.2.2.2.2.1 z.2.2.2.2.2.2.2.2.2.2.1 z.2.2.2.2.2.2.2.2.2.2.2.1 z.2.2.2.2.2.2.2.2.2.2.2.2.1 z.2.2.2.2.2.2.2.2.2.2.2.2.2 q y h)
theorem q68_1_t (n k : Nat) (z3x0 z3x1 z3x2 z3x3 z3x4 z3x5 z3x6 z3x7 z3x8 z3x9 z3x10 : Int) (y4_ : curfewref08_Next_l1_Y) : rnd q68_cx okT q68_lp (n + 1) 68 none q68_1_body q68_1_k (curfewref08_Next_l1 k) (z3x0, z3x1, z3x2, z3x3, z3x4, z3x5, z3x6, z3x7, z3x8, z3x9, z3x10) () () y4_ = curfewref08_Next_l1_F ipT (fun z y => curfewref08_Next_l1 k z y) z3x0 z3x1 z3x2 z3x3 z3x4 z3x5 z3x6 z3x7 z3x8 z3x9 z3x10 y4_ := by kernel_rfl
theorem q68_1_r (k : Nat) (z3x0 z3x1 z3x2 z3x3 z3x4 z3x5 z3x6 z3x7 z3x8 z3x9 z3x10 : Int) (y4_ : curfewref08_Next_l1_Y) : curfewref08_Next_l1 (k + 1) (z3x0, z3x1, z3x2, z3x3, z3x4, z3x5, z3x6, z3x7, z3x8, z3x9, z3x10) y4_ → curfewref08_Next_l1_F ipT (fun z y => curfewref08_Next_l1 k z y) z3x0 z3x1 z3x2 z3x3 z3x4 z3x5 z3x6 z3x7 z3x8 z3x9 z3x10 y4_ := by
  unfold curfewref08_Next_l1_F
  intro h; simp only [curfewref08_Next_l1] at h; revert h
  refine MI.run ?_
  repeat' (first | intro _ | with_reducible constructor)
theorem q68_1_ok (n : Nat) : Owed q68_cx okT 68 q68_lp (n + 1) q68_1_lp := owed_rnd (lk := q68_1_k) (l := curfewref08_Next_l1) (fun z y h => h) fun k z q c y h => Eq.mpr (q68_1_t n k z.1 z.2.1 z.2.2.1 z.2.2.2.1 z.2.2.2.2.1 z.2.2.2.2.2.1 z.2.2.2.2.2.2.1 z.2.2.2.2.2.2.2.1 z.2.2.2.2.2.2.2.2.1 z.2.2.2.2.2.2.2.2.2.1 z.2.2.2.2.2.2.2.2.2.2 y) (q68_1_r k z.1 z.2.1 z.2.2.1 z.2.2.2.1 z.2.2.2.2.1 z.2.2.2.2.2.1 z.2.2.2.2.2.2.1 z.2.2.2.2.2.2.2.1 z.2.2.2.2.2.2.2.2.1 z.2.2.2.2.2.2.2.2.2.1 z.2.2.2.2.2.2.2.2.2.2 y h)
def curfewref08_Next_F (i : Ip) (a0 a1 a2 a3 a4 a5 : Int) (y : Int × Bool) : Prop :=
  (∃ y1 : Int, (curfewref08_Day_R a5 y1) ∧ (∃ y2 : Int × Int × Int, (curfewref04_At_R y1 y2) ∧ (i.lo none q68_1_body (∃ y15 : curfewref08_Next_l1_Y, curfewref08_Next_l1_L (a0, a1, a2, a3, a4, (y2.1), (y2.2.1), (y2.2.2), a5, y1, y1) y15 ∧ sume (fun y15 => ((y15, true) = y)) (fun y15 => ((0, false) = y)) y15))))
def curfewref08_Next_R (a0 a1 a2 a3 a4 a5 : Int) (y : Int × Bool) : Prop :=
  (∃ y1 : Int, (curfewref08_Day_R a5 y1) ∧ (∃ y2 : Int × Int × Int, (curfewref04_At_R y1 y2) ∧ (∃ y15 : curfewref08_Next_l1_Y, curfewref08_Next_l1_L (a0, a1, a2, a3, a4, (y2.1), (y2.2.1), (y2.2.2), a5, y1, y1) y15 ∧ sume (fun y15 => ((y15, true) = y)) (fun y15 => ((0, false) = y)) y15)))
theorem q68_t (a0 a1 a2 a3 a4 a5 : Int) (y : Int × Bool) : acall q68_cx okT q68_lp 60 (.fn 68 [] []) [(V.agg [(vu a0), (vu a1), (vu a2), (vu a3), (vu a4)]), (vi a5)] [] (leafK B68 y) = curfewref08_Next_F ipT a0 a1 a2 a3 a4 a5 y := by kernel_rfl
theorem q68_r (a0 a1 a2 a3 a4 a5 : Int) (y : Int × Bool) : curfewref08_Next_R a0 a1 a2 a3 a4 a5 y → curfewref08_Next_F ipT a0 a1 a2 a3 a4 a5 y := by
  unfold curfewref08_Next_R curfewref08_Next_F
  refine MI.run ?_
  repeat' (first | intro _ | with_reducible constructor)
abbrev r68 (x : A68.den) (y : B68.den) : Prop := curfewref08_Next_R (x.1.1) (x.1.2.1) (x.1.2.2.1) (x.1.2.2.2.1) (x.1.2.2.2.2) (x.2) y
theorem curfewref08_Next_ok : FxOk Tryz.prog gsT 68 A68 B68 r68 := fo (c := q68_cx) rfl rfl (Fns_assoc ⟨b68, curfewref08_Day_ok, curfewref04_At_ok, curfewref08_fits_ok, curfewref08_On_ok, curfewref08_behind_ok, trivial⟩) (lp := q68_lp) (n := 60) (LpOk_tab ⟨q68_0_ok, q68_1_ok, trivial⟩) (enters Tryz.func68 (by kernel_rfl) rfl) (fun y => ⟨_, rfl⟩) fun x y h => Eq.mpr (q68_t _ _ _ _ _ _ y) (q68_r _ _ _ _ _ _ y h)
def e68 : Nat × Ent := (68, .fx A68 B68 r68)
noncomputable def c23 : Nat × Ent := (23, .body Tryz.f23)
theorem b23 {c : Cx} : EntOk Tryz.prog c 23 (.body Tryz.f23) := body_ent Tryz.func23 (by kernel_rfl) (by kernel_rfl)
abbrev A23 : RT := (.cons (.agg (.cons (.int .u32) (.cons .bool (.cons (.int .u64) (.cons (.int .u64) (.cons (.int .u64) (.cons (.int .u64) (.cons (.int .u64) (.cons (.int .i64) (.cons (.int .i64) (.cons (.int .i64) (.one (.int .i64))))))))))))) (.one (.int .i64)))
abbrev B23 : RT := (.tup (.cons (.int .i64) (.one .bool)))
noncomputable def q23_cx : Cx := ⟨tyT, [c23, e68], gsT, eqT, false⟩
def curfewref10_First_R (a0 : Int) (a1 : Bool) (a2 a3 a4 a5 a6 a7 a8 a9 a10 a11 : Int) (y : Int × Bool) : Prop :=
  (br (!a1) (∃ y1 : Int × Bool, (curfewref08_Next_R a2 a3 a4 a5 a6 a11 y1) ∧ (y1 = y)) (br (decide (a7 > a11)) ((a7, true) = y) ((0, false) = y)))
theorem q23_t (a0 : Int) (a1 : Bool) (a2 a3 a4 a5 a6 a7 a8 a9 a10 a11 : Int) (y : Int × Bool) : acall q23_cx okT lpT 60 (.fn 23 [] []) [(V.agg [(V.int .u32 a0), (vb a1), (vu a2), (vu a3), (vu a4), (vu a5), (vu a6), (vi a7), (vi a8), (vi a9), (vi a10)]), (vi a11)] [] (leafK B23 y) = curfewref10_First_R a0 a1 a2 a3 a4 a5 a6 a7 a8 a9 a10 a11 y := by kernel_rfl
abbrev r23 (x : A23.den) (y : B23.den) : Prop := curfewref10_First_R (x.1.1) (x.1.2.1) (x.1.2.2.1) (x.1.2.2.2.1) (x.1.2.2.2.2.1) (x.1.2.2.2.2.2.1) (x.1.2.2.2.2.2.2.1) (x.1.2.2.2.2.2.2.2.1) (x.1.2.2.2.2.2.2.2.2.1) (x.1.2.2.2.2.2.2.2.2.2.1) (x.1.2.2.2.2.2.2.2.2.2.2) (x.2) y
theorem curfewref10_First_ok : FxOk Tryz.prog gsT 23 A23 B23 r23 := fo (c := q23_cx) rfl rfl (Fns_assoc ⟨b23, curfewref08_Next_ok, trivial⟩) (n := 60) (lp_ok) (enters Tryz.func23 (by kernel_rfl) rfl) (fun y => ⟨_, rfl⟩) fun x y h => Eq.mpr (q23_t _ _ _ _ _ _ _ _ _ _ _ _ y) h
def e23 : Nat × Ent := (23, .fx A23 B23 r23)
noncomputable def c69 : Nat × Ent := (69, .body Tryz.f69)
theorem b69 {c : Cx} : EntOk Tryz.prog c 69 (.body Tryz.f69) := body_ent Tryz.func69 (by kernel_rfl) (by kernel_rfl)
abbrev A69 : RT := (.cons (.agg (.cons (.int .u64) (.cons (.int .u64) (.cons (.int .u64) (.cons (.int .u64) (.one (.int .u64))))))) (.one (.int .i64)))
abbrev B69 : RT := (.tup (.cons (.int .i64) (.one .bool)))
noncomputable def q69_cx : Cx := ⟨tyT, [c69, e132, e135, e138], gsT, eqT, false⟩
noncomputable def q69_0_body : Code := subC [1, 1, 1, 0, 1, 0, 0, 1, 0, 0, 1, 1, 0, 0] (bodyOf Tryz.f69)
abbrev curfewref08_Last_l0_Z : Type := List Int × List Int × Int × Int × Int × Int × Int × Int × Int × Int × Int
abbrev curfewref08_Last_l0_Y : Type := (Int) ⊕ (Unit)
noncomputable def q69_0_k : LK := ⟨3, ⟨[(1, .w 7), (2, .ptr 0 0), (7, .row 1 1 (.z 0) (.q 0)), (8, .w 8), (9, .row 2 1 (.z 1) (.q 1)), (10, .w 9), (26, .agg [.e (.z 2), .e (.z 3), .e (.z 4), .e (.z 5), .e (.z 6)]), (27, .row 1 1 (.z 0) (.q 0)), (28, .e (.z 8)), (30, .w 10), (31, .row 2 1 (.z 1) (.q 1))], [.cells [.w 2, .w 3, .w 4, .w 5, .w 6], .row (.int .i64) (.z 0) 3 (.q 0), .row (.int .i64) (.z 1) 2 (.q 1)], []⟩, [.sl (.int .i64), .sl (.int .i64), .int .u64, .int .u64, .int .u64, .int .u64, .int .u64, .int .i64, .int .i64, .int .i64, .int .i64], [.nat, .nat], [], [0, 1, 2, 3, 4, 5, 6, 7, 8, 10], [⟨.ret, ⟨[(4, .w 0), (5, .lb true)], [.dead, .dead, .dead], []⟩, [.int .i64], [], none⟩, ⟨(.exit 2), ⟨[(1, .e (.p 7)), (2, .ptr 0 0), (7, .row 1 1 (.p 0) (.p 10)), (8, .e (.p 8)), (26, .agg [.e (.p 2), .e (.p 3), .e (.p 4), .e (.p 5), .e (.p 6)]), (27, .row 1 1 (.p 0) (.p 10)), (28, .e (.p 8)), (30, .e (.p 9)), (31, .row 2 1 (.p 1) (.p 11))], [.cells [.e (.p 2), .e (.p 3), .e (.p 4), .e (.p 5), .e (.p 6)], .row (.int .i64) (.p 0) 3 (.p 10), .row (.int .i64) (.p 1) 2 (.p 11)], []⟩, [], [], none⟩]⟩
def curfewref08_Last_l0_F (i : Ip) (l : curfewref08_Last_l0_Z → curfewref08_Last_l0_Y → Prop) (z8x0 z8x1 : List Int) (z8x2 z8x3 z8x4 z8x5 z8x6 z8x7 z8x8 z8x9 z8x10 : Int) (z8q0 z8q1 : Nat) (y9_ : curfewref08_Last_l0_Y) : Prop :=
  (br (decide (z8x9 ≥ 0)) (i.rq ((decide (0 ≤ z8x9)) && (decide (z8x9 < (((List.length z8x1) : Nat) : Int)))) (i.rq (Nat.blt (Int.toNat z8x9) (List.length z8x1)) (br (decide ((List.getD z8x1 (Int.toNat z8x9) 0) ≤ z8x7)) (i.rq ((decide (0 ≤ z8x9)) && (decide (z8x9 < (((List.length z8x1) : Nat) : Int)))) (i.rq (Nat.blt (Int.toNat z8x9) (List.length z8x1)) ((Sum.inl (List.getD z8x1 (Int.toNat z8x9) 0)) = y9_))) (i.te [(V.row 1 1 (List.length z8x0) z8q0), (V.row 2 1 (List.length z8x1) z8q1), (vu z8x2), (vu z8x3), (vu z8x4), (vu z8x5), (vu z8x6), (V.row 1 1 (List.length z8x0) z8q0), (vi z8x8), (V.row 2 1 (List.length z8x1) z8q1)] [] (i.tq [(V.sl (.int .i64) z8x0 none), (V.sl (.int .i64) z8x1 none), (vu z8x2), (vu z8x3), (vu z8x4), (vu z8x5), (vu z8x6), (vi z8x7), (vi z8x8), (vi z8x10), (V.yld z8q0), (V.yld z8q1)] (l (z8x0, z8x1, z8x2, z8x3, z8x4, z8x5, z8x6, z8x7, z8x8, (IntKind.wrap .i64 (z8x9 - 1)), z8x10) y9_)))))) (i.te [(V.sl (.int .i64) z8x0 none), (V.yld z8q0), (V.sl (.int .i64) z8x1 none), (V.yld z8q1), (vu z8x2), (vu z8x3), (vu z8x4), (vu z8x5), (vu z8x6), (vi z8x7), (V.row 1 1 (List.length z8x0) z8q0), (vi z8x8), (vu z8x2), (vu z8x3), (vu z8x4), (vu z8x5), (vu z8x6), (V.row 1 1 (List.length z8x0) z8q0), (vi z8x8), (vi z8x10), (V.row 2 1 (List.length z8x1) z8q1)] [] ((Sum.inr ()) = y9_)))
def curfewref08_Last_l0 : Nat → curfewref08_Last_l0_Z → curfewref08_Last_l0_Y → Prop
  | 0, _, _ => False
  | k + 1, (z8x0, z8x1, z8x2, z8x3, z8x4, z8x5, z8x6, z8x7, z8x8, z8x9, z8x10), y9_ => (br (decide (z8x9 ≥ 0)) (req ((decide (0 ≤ z8x9)) && (decide (z8x9 < (((List.length z8x1) : Nat) : Int)))) (req (Nat.blt (Int.toNat z8x9) (List.length z8x1)) (br (decide ((List.getD z8x1 (Int.toNat z8x9) 0) ≤ z8x7)) (req ((decide (0 ≤ z8x9)) && (decide (z8x9 < (((List.length z8x1) : Nat) : Int)))) (req (Nat.blt (Int.toNat z8x9) (List.length z8x1)) ((Sum.inl (List.getD z8x1 (Int.toNat z8x9) 0)) = y9_))) (curfewref08_Last_l0 k (z8x0, z8x1, z8x2, z8x3, z8x4, z8x5, z8x6, z8x7, z8x8, (IntKind.wrap .i64 (z8x9 - 1)), z8x10) y9_)))) ((Sum.inr ()) = y9_))
def curfewref08_Last_l0_L (z : curfewref08_Last_l0_Z) (y : curfewref08_Last_l0_Y) : Prop := ∃ k, curfewref08_Last_l0 k z y
noncomputable def q69_0_lp : Lp := .auto none q69_0_body (loopK q69_0_k fun z y => ∃ k, curfewref08_Last_l0 k z y)
noncomputable def q69_1_body : Code := subC [1, 1, 1, 0, 1, 0, 0] (bodyOf Tryz.f69)
abbrev curfewref08_Last_l1_Z : Type := List Int × Int × Int × Int × Int × Int × Int × Int
abbrev curfewref08_Last_l1_Y : Type := (Int) ⊕ (Unit)
noncomputable def q69_1_k : LK := ⟨2, ⟨[(1, .w 6), (2, .ptr 0 0), (7, .row 1 1 (.z 0) (.q 0)), (8, .w 7)], [.cells [.w 1, .w 2, .w 3, .w 4, .w 5], .row (.int .i64) (.z 0) 3 (.q 0)], []⟩, [.sl (.int .i64), .int .u64, .int .u64, .int .u64, .int .u64, .int .u64, .int .i64, .int .i64], [.nat], [], [], [⟨.ret, ⟨[(4, .w 0), (5, .lb true)], [.dead, .dead], []⟩, [.int .i64], [], none⟩, ⟨(.exit 0), ⟨[], [.dead, .dead], []⟩, [], [], none⟩]⟩
def curfewref08_Last_l1_F (i : Ip) (l : curfewref08_Last_l1_Z → curfewref08_Last_l1_Y → Prop) (z4x0 : List Int) (z4x1 z4x2 z4x3 z4x4 z4x5 z4x6 z4x7 : Int) (z4q0 : Nat) (y5_ : curfewref08_Last_l1_Y) : Prop :=
  (br (decide (z4x7 ≥ 0)) (i.rq ((decide (0 ≤ z4x7)) && (decide (z4x7 < (((List.length z4x0) : Nat) : Int)))) (i.rq (Nat.blt (Int.toNat z4x7) (List.length z4x0)) (∃ y6 : List Int, (curfewref08_On_R z4x1 z4x2 z4x3 z4x4 z4x5 (List.getD z4x0 (Int.toNat z4x7) 0) y6) ∧ (i.cp (List.length y6) fun c7 hc7 => (i.lo none q69_0_body (i.te [(V.row 1 1 (List.length z4x0) z4q0), (V.row 2 1 (List.length y6) c7), (vu z4x1), (vu z4x2), (vu z4x3), (vu z4x4), (vu z4x5), (V.row 1 1 (List.length z4x0) z4q0), (vi z4x7), (V.row 2 1 (List.length y6) c7)] [] (∃ y11 : curfewref08_Last_l0_Y, curfewref08_Last_l0_L (z4x0, y6, z4x1, z4x2, z4x3, z4x4, z4x5, z4x6, z4x7, (IntKind.wrap .i64 ((((List.length y6) : Nat) : Int) - 1)), (List.getD z4x0 (Int.toNat z4x7) 0)) y11 ∧ sume (fun y11 => ((Sum.inl y11) = y5_)) (fun y11 => (i.te [(V.row 1 1 (List.length z4x0) z4q0)] [] (i.tq [(V.yld z4q0)] (l (z4x0, z4x1, z4x2, z4x3, z4x4, z4x5, z4x6, (IntKind.wrap .i64 (z4x7 - 1))) y5_)))) y11))))))) ((Sum.inr ()) = y5_))
def curfewref08_Last_l1 : Nat → curfewref08_Last_l1_Z → curfewref08_Last_l1_Y → Prop
  | 0, _, _ => False
  | k + 1, (z4x0, z4x1, z4x2, z4x3, z4x4, z4x5, z4x6, z4x7), y5_ => (br (decide (z4x7 ≥ 0)) (req ((decide (0 ≤ z4x7)) && (decide (z4x7 < (((List.length z4x0) : Nat) : Int)))) (req (Nat.blt (Int.toNat z4x7) (List.length z4x0)) (∃ y6 : List Int, (curfewref08_On_R z4x1 z4x2 z4x3 z4x4 z4x5 (List.getD z4x0 (Int.toNat z4x7) 0) y6) ∧ (∃ y11 : curfewref08_Last_l0_Y, curfewref08_Last_l0_L (z4x0, y6, z4x1, z4x2, z4x3, z4x4, z4x5, z4x6, z4x7, (IntKind.wrap .i64 ((((List.length y6) : Nat) : Int) - 1)), (List.getD z4x0 (Int.toNat z4x7) 0)) y11 ∧ sume (fun y11 => ((Sum.inl y11) = y5_)) (fun y11 => (curfewref08_Last_l1 k (z4x0, z4x1, z4x2, z4x3, z4x4, z4x5, z4x6, (IntKind.wrap .i64 (z4x7 - 1))) y5_)) y11)))) ((Sum.inr ()) = y5_))
def curfewref08_Last_l1_L (z : curfewref08_Last_l1_Z) (y : curfewref08_Last_l1_Y) : Prop := ∃ k, curfewref08_Last_l1 k z y
noncomputable def q69_1_lp : Lp := .auto none q69_1_body (loopK q69_1_k fun z y => ∃ k, curfewref08_Last_l1 k z y)
noncomputable def q69_lp : Nat → FuncId → Nat → Nat → Lp := lpTab [(69, 8, 3, 0, q69_0_lp), (69, 4, 2, 1, q69_1_lp)]
theorem q69_0_t (n k : Nat) (z8x0 z8x1 : List Int) (z8x2 z8x3 z8x4 z8x5 z8x6 z8x7 z8x8 z8x9 z8x10 : Int) (z8q0 z8q1 : Nat) (y9_ : curfewref08_Last_l0_Y) : rnd q69_cx okT q69_lp (n + 0) 69 none q69_0_body q69_0_k (curfewref08_Last_l0 k) (z8x0, z8x1, z8x2, z8x3, z8x4, z8x5, z8x6, z8x7, z8x8, z8x9, z8x10) (z8q0, z8q1) () y9_ = curfewref08_Last_l0_F ipT (fun z y => curfewref08_Last_l0 k z y) z8x0 z8x1 z8x2 z8x3 z8x4 z8x5 z8x6 z8x7 z8x8 z8x9 z8x10 z8q0 z8q1 y9_ := by kernel_rfl
theorem q69_0_r (k : Nat) (z8x0 z8x1 : List Int) (z8x2 z8x3 z8x4 z8x5 z8x6 z8x7 z8x8 z8x9 z8x10 : Int) (z8q0 z8q1 : Nat) (y9_ : curfewref08_Last_l0_Y) : curfewref08_Last_l0 (k + 1) (z8x0, z8x1, z8x2, z8x3, z8x4, z8x5, z8x6, z8x7, z8x8, z8x9, z8x10) y9_ → curfewref08_Last_l0_F ipT (fun z y => curfewref08_Last_l0 k z y) z8x0 z8x1 z8x2 z8x3 z8x4 z8x5 z8x6 z8x7 z8x8 z8x9 z8x10 z8q0 z8q1 y9_ := by
  unfold curfewref08_Last_l0_F
  intro h; simp only [curfewref08_Last_l0] at h; revert h
  refine MI.run ?_
  repeat' (first | intro _ | with_reducible constructor)
theorem q69_0_ok (n : Nat) : Owed q69_cx okT 69 q69_lp (n + 0) q69_0_lp := owed_rnd (lk := q69_0_k) (l := curfewref08_Last_l0) (fun z y h => h) fun k z q c y h => Eq.mpr (q69_0_t n k z.1 z.2.1 z.2.2.1 z.2.2.2.1 z.2.2.2.2.1 z.2.2.2.2.2.1 z.2.2.2.2.2.2.1 z.2.2.2.2.2.2.2.1 z.2.2.2.2.2.2.2.2.1 z.2.2.2.2.2.2.2.2.2.1 z.2.2.2.2.2.2.2.2.2.2 q.1 q.2 y) (q69_0_r k z.1 z.2.1 z.2.2.1 z.2.2.2.1 z.2.2.2.2.1 z.2.2.2.2.2.1 z.2.2.2.2.2.2.1 z.2.2.2.2.2.2.2.1 z.2.2.2.2.2.2.2.2.1 z.2.2.2.2.2.2.2.2.2.1 z.2.2.2.2.2.2.2.2.2.2 q.1 q.2 y h)
theorem q69_1_t (n k : Nat) (z4x0 : List Int) (z4x1 z4x2 z4x3 z4x4 z4x5 z4x6 z4x7 : Int) (z4q0 : Nat) (y5_ : curfewref08_Last_l1_Y) : rnd q69_cx okT q69_lp (n + 1) 69 none q69_1_body q69_1_k (curfewref08_Last_l1 k) (z4x0, z4x1, z4x2, z4x3, z4x4, z4x5, z4x6, z4x7) z4q0 () y5_ = curfewref08_Last_l1_F ipT (fun z y => curfewref08_Last_l1 k z y) z4x0 z4x1 z4x2 z4x3 z4x4 z4x5 z4x6 z4x7 z4q0 y5_ := by kernel_rfl
theorem q69_1_r (k : Nat) (z4x0 : List Int) (z4x1 z4x2 z4x3 z4x4 z4x5 z4x6 z4x7 : Int) (z4q0 : Nat) (y5_ : curfewref08_Last_l1_Y) : curfewref08_Last_l1 (k + 1) (z4x0, z4x1, z4x2, z4x3, z4x4, z4x5, z4x6, z4x7) y5_ → curfewref08_Last_l1_F ipT (fun z y => curfewref08_Last_l1 k z y) z4x0 z4x1 z4x2 z4x3 z4x4 z4x5 z4x6 z4x7 z4q0 y5_ := by
  unfold curfewref08_Last_l1_F
  intro h; simp only [curfewref08_Last_l1] at h; revert h
  refine MI.run ?_
  repeat' (first | intro _ | with_reducible constructor)
theorem q69_1_ok (n : Nat) : Owed q69_cx okT 69 q69_lp (n + 1) q69_1_lp := owed_rnd (lk := q69_1_k) (l := curfewref08_Last_l1) (fun z y h => h) fun k z q c y h => Eq.mpr (q69_1_t n k z.1 z.2.1 z.2.2.1 z.2.2.2.1 z.2.2.2.2.1 z.2.2.2.2.2.1 z.2.2.2.2.2.2.1 z.2.2.2.2.2.2.2 q y) (q69_1_r k z.1 z.2.1 z.2.2.1 z.2.2.2.1 z.2.2.2.2.1 z.2.2.2.2.2.1 z.2.2.2.2.2.2.1 z.2.2.2.2.2.2.2 q y h)
def curfewref08_Last_F (i : Ip) (a0 a1 a2 a3 a4 a5 : Int) (y : Int × Bool) : Prop :=
  (∃ y1 : Int, (curfewref08_Day_R a5 y1) ∧ (∃ y2 : List Int, (curfewref08_Fit_R a0 a1 a2 a3 a4 (if 0 > (IntKind.wrap .i64 (y1 - 2922)) then 0 else (IntKind.wrap .i64 (y1 - 2922))) y1 y2) ∧ (i.cp (List.length y2) fun c3 hc3 => (i.lo none q69_1_body (i.te [(V.row 1 1 (List.length y2) c3)] [] (∃ y13 : curfewref08_Last_l1_Y, curfewref08_Last_l1_L (y2, a0, a1, a2, a3, a4, a5, (IntKind.wrap .i64 ((((List.length y2) : Nat) : Int) - 1))) y13 ∧ sume (fun y13 => ((y13, true) = y)) (fun y13 => ((0, false) = y)) y13))))))
def curfewref08_Last_R (a0 a1 a2 a3 a4 a5 : Int) (y : Int × Bool) : Prop :=
  (∃ y1 : Int, (curfewref08_Day_R a5 y1) ∧ (∃ y2 : List Int, (curfewref08_Fit_R a0 a1 a2 a3 a4 (if 0 > (IntKind.wrap .i64 (y1 - 2922)) then 0 else (IntKind.wrap .i64 (y1 - 2922))) y1 y2) ∧ (∃ y13 : curfewref08_Last_l1_Y, curfewref08_Last_l1_L (y2, a0, a1, a2, a3, a4, a5, (IntKind.wrap .i64 ((((List.length y2) : Nat) : Int) - 1))) y13 ∧ sume (fun y13 => ((y13, true) = y)) (fun y13 => ((0, false) = y)) y13)))
theorem q69_t (a0 a1 a2 a3 a4 a5 : Int) (y : Int × Bool) : acall q69_cx okT q69_lp 60 (.fn 69 [] []) [(V.agg [(vu a0), (vu a1), (vu a2), (vu a3), (vu a4)]), (vi a5)] [] (leafK B69 y) = curfewref08_Last_F ipT a0 a1 a2 a3 a4 a5 y := by kernel_rfl
theorem q69_r (a0 a1 a2 a3 a4 a5 : Int) (y : Int × Bool) : curfewref08_Last_R a0 a1 a2 a3 a4 a5 y → curfewref08_Last_F ipT a0 a1 a2 a3 a4 a5 y := by
  unfold curfewref08_Last_R curfewref08_Last_F
  refine MI.run ?_
  repeat' (first | intro _ | with_reducible constructor)
abbrev r69 (x : A69.den) (y : B69.den) : Prop := curfewref08_Last_R (x.1.1) (x.1.2.1) (x.1.2.2.1) (x.1.2.2.2.1) (x.1.2.2.2.2) (x.2) y
theorem curfewref08_Last_ok : FxOk Tryz.prog gsT 69 A69 B69 r69 := fo (c := q69_cx) rfl rfl (Fns_assoc ⟨b69, curfewref08_Fit_ok, curfewref08_Day_ok, curfewref08_On_ok, trivial⟩) (lp := q69_lp) (n := 60) (LpOk_tab ⟨q69_0_ok, q69_1_ok, trivial⟩) (enters Tryz.func69 (by kernel_rfl) rfl) (fun y => ⟨_, rfl⟩) fun x y h => Eq.mpr (q69_t _ _ _ _ _ _ y) (q69_r _ _ _ _ _ _ y h)
def e69 : Nat × Ent := (69, .fx A69 B69 r69)
noncomputable def c24 : Nat × Ent := (24, .body Tryz.f24)
theorem b24 {c : Cx} : EntOk Tryz.prog c 24 (.body Tryz.f24) := body_ent Tryz.func24 (by kernel_rfl) (by kernel_rfl)
abbrev A24 : RT := (.cons (.agg (.cons (.int .u32) (.cons .bool (.cons (.int .u64) (.cons (.int .u64) (.cons (.int .u64) (.cons (.int .u64) (.cons (.int .u64) (.cons (.int .i64) (.cons (.int .i64) (.cons (.int .i64) (.one (.int .i64))))))))))))) (.one (.int .i64)))
abbrev B24 : RT := (.tup (.cons (.int .i64) (.one .bool)))
noncomputable def q24_cx : Cx := ⟨tyT, [c24, e69], gsT, eqT, false⟩
def curfewref10_Latest_R (a0 : Int) (a1 : Bool) (a2 a3 a4 a5 a6 a7 a8 a9 a10 a11 : Int) (y : Int × Bool) : Prop :=
  (br (!a1) (∃ y1 : Int × Bool, (curfewref08_Last_R a2 a3 a4 a5 a6 a11 y1) ∧ (y1 = y)) (br (decide (a7 ≤ a11)) ((a7, true) = y) ((0, false) = y)))
theorem q24_t (a0 : Int) (a1 : Bool) (a2 a3 a4 a5 a6 a7 a8 a9 a10 a11 : Int) (y : Int × Bool) : acall q24_cx okT lpT 60 (.fn 24 [] []) [(V.agg [(V.int .u32 a0), (vb a1), (vu a2), (vu a3), (vu a4), (vu a5), (vu a6), (vi a7), (vi a8), (vi a9), (vi a10)]), (vi a11)] [] (leafK B24 y) = curfewref10_Latest_R a0 a1 a2 a3 a4 a5 a6 a7 a8 a9 a10 a11 y := by kernel_rfl
abbrev r24 (x : A24.den) (y : B24.den) : Prop := curfewref10_Latest_R (x.1.1) (x.1.2.1) (x.1.2.2.1) (x.1.2.2.2.1) (x.1.2.2.2.2.1) (x.1.2.2.2.2.2.1) (x.1.2.2.2.2.2.2.1) (x.1.2.2.2.2.2.2.2.1) (x.1.2.2.2.2.2.2.2.2.1) (x.1.2.2.2.2.2.2.2.2.2.1) (x.1.2.2.2.2.2.2.2.2.2.2) (x.2) y
theorem curfewref10_Latest_ok : FxOk Tryz.prog gsT 24 A24 B24 r24 := fo (c := q24_cx) rfl rfl (Fns_assoc ⟨b24, curfewref08_Last_ok, trivial⟩) (n := 60) (lp_ok) (enters Tryz.func24 (by kernel_rfl) rfl) (fun y => ⟨_, rfl⟩) fun x y h => Eq.mpr (q24_t _ _ _ _ _ _ _ _ _ _ _ _ y) h
def e24 : Nat × Ent := (24, .fx A24 B24 r24)
noncomputable def c25 : Nat × Ent := (25, .body Tryz.f25)
theorem b25 {c : Cx} : EntOk Tryz.prog c 25 (.body Tryz.f25) := body_ent Tryz.func25 (by kernel_rfl) (by kernel_rfl)
abbrev A25 : RT := (.cons (.agg (.cons (.int .u32) (.cons .bool (.cons (.int .u64) (.cons (.int .u64) (.cons (.int .u64) (.cons (.int .u64) (.cons (.int .u64) (.cons (.int .i64) (.cons (.int .i64) (.cons (.int .i64) (.one (.int .i64))))))))))))) (.cons (.agg (.cons (.int .i64) (.one (.int .i64)))) (.one (.int .i64))))
abbrev B25 : RT := (.nw (.int .i64) 2)
noncomputable def q25_cx : Cx := ⟨tyT, [e23, c25], gsT, eqT, false⟩
noncomputable def q25_0_body : Code := subC [1, 1, 1, 0, 0, 0] (bodyOf Tryz.f25)
abbrev curfewref10_Times_l0_Z : Type := List Int × Int × Bool × Int × Int × Int × Int × Int × Int × Int × Int × Int × Int × Int × Int × Int × Bool
abbrev curfewref10_Times_l0_Y : Type := List Int
noncomputable def q25_0_k : LK := ⟨2, ⟨[(2, .w 14), (3, .ptr 0 0), (4, .ptr 1 0), (7, .row 2 1 (.z 0) (.c 0)), (8, .w 15), (9, .w 16)], [.cells [.w 1, .w 2, .w 3, .w 4, .w 5, .w 6, .w 7, .w 8, .w 9, .w 10, .w 11], .cells [.w 12, .w 13], .row (.int .i64) (.z 0) 2 (.c 0)], []⟩, [.sl (.int .i64), .int .u32, .bool, .int .u64, .int .u64, .int .u64, .int .u64, .int .u64, .int .i64, .int .i64, .int .i64, .int .i64, .int .i64, .int .i64, .int .i64, .int .i64, .bool], [], [.nat], [], [⟨(.exit 0), ⟨[(7, .row 2 1 (.z 0) (.c 0))], [.dead, .dead, .row (.int .i64) (.z 0) 2 (.c 0)], []⟩, [.sl (.int .i64)], [.nat], none⟩]⟩
def curfewref10_Times_l0_F (i : Ip) (l : curfewref10_Times_l0_Z → curfewref10_Times_l0_Y → Prop) (z2x0 : List Int) (z2x1 : Int) (z2x2 : Bool) (z2x3 z2x4 z2x5 z2x6 z2x7 z2x8 z2x9 z2x10 z2x11 z2x12 z2x13 z2x14 z2x15 : Int) (z2x16 : Bool) (z2k0 : Nat) (y3_ : curfewref10_Times_l0_Y) : Prop :=
  (br z2x16 (br (decide (z2x15 ≤ z2x13)) (br (decide ((((List.length z2x0) : Nat) : Int) < z2x14)) (i.r2 (Nat.ble ((List.length (z2x0 ++ [z2x15])) * 9) 140737488355328) (((((true && true) && true) && (Nat.beq (List.length z2x0) (List.length z2x0))) && (Nat.beq z2k0 z2k0)) && (Nat.ble ((List.length (z2x0 ++ [z2x15])) * 9) 140737488355328)) (fun q => (band (band (band (band (band rfl rfl) rfl) (Nat.beq_refl _)) (Nat.beq_refl _)) q)) (i.cp (List.length (z2x0 ++ [z2x15])) fun c4 hc4 => (∃ y5 : Int × Bool, (curfewref10_First_R z2x1 z2x2 z2x3 z2x4 z2x5 z2x6 z2x7 z2x8 z2x9 z2x10 z2x11 z2x15 y5) ∧ (i.te [(V.row 2 1 (List.length (z2x0 ++ [z2x15])) c4)] [] (l ((z2x0 ++ [z2x15]), z2x1, z2x2, z2x3, z2x4, z2x5, z2x6, z2x7, z2x8, z2x9, z2x10, z2x11, z2x12, z2x13, z2x14, (y5.1), (y5.2)) y3_))))) (i.te [(V.row 2 1 (List.length z2x0) z2k0)] [] (z2x0 = y3_))) (i.te [(V.row 2 1 (List.length z2x0) z2k0)] [] (z2x0 = y3_))) (i.te [(V.row 2 1 (List.length z2x0) z2k0)] [] (z2x0 = y3_)))
def curfewref10_Times_l0 : Nat → curfewref10_Times_l0_Z → curfewref10_Times_l0_Y → Prop
  | 0, _, _ => False
  | k + 1, (z2x0, z2x1, z2x2, z2x3, z2x4, z2x5, z2x6, z2x7, z2x8, z2x9, z2x10, z2x11, z2x12, z2x13, z2x14, z2x15, z2x16), y3_ => (br z2x16 (br (decide (z2x15 ≤ z2x13)) (br (decide ((((List.length z2x0) : Nat) : Int) < z2x14)) (req (Nat.ble ((List.length (z2x0 ++ [z2x15])) * 9) 140737488355328) (∃ y5 : Int × Bool, (curfewref10_First_R z2x1 z2x2 z2x3 z2x4 z2x5 z2x6 z2x7 z2x8 z2x9 z2x10 z2x11 z2x15 y5) ∧ (curfewref10_Times_l0 k ((z2x0 ++ [z2x15]), z2x1, z2x2, z2x3, z2x4, z2x5, z2x6, z2x7, z2x8, z2x9, z2x10, z2x11, z2x12, z2x13, z2x14, (y5.1), (y5.2)) y3_))) (z2x0 = y3_)) (z2x0 = y3_)) (z2x0 = y3_))
def curfewref10_Times_l0_L (z : curfewref10_Times_l0_Z) (y : curfewref10_Times_l0_Y) : Prop := ∃ k, curfewref10_Times_l0 k z y
noncomputable def q25_0_lp : Lp := .auto none q25_0_body (loopK q25_0_k fun z y => ∃ k, curfewref10_Times_l0 k z y)
noncomputable def q25_lp : Nat → FuncId → Nat → Nat → Lp := lpTab [(25, 3, 2, 1, q25_0_lp)]
theorem q25_0_t (n k : Nat) (z2x0 : List Int) (z2x1 : Int) (z2x2 : Bool) (z2x3 z2x4 z2x5 z2x6 z2x7 z2x8 z2x9 z2x10 z2x11 z2x12 z2x13 z2x14 z2x15 : Int) (z2x16 : Bool) (z2k0 : Nat) (y3_ : curfewref10_Times_l0_Y) : rnd q25_cx okT q25_lp (n + 1) 25 none q25_0_body q25_0_k (curfewref10_Times_l0 k) (z2x0, z2x1, z2x2, z2x3, z2x4, z2x5, z2x6, z2x7, z2x8, z2x9, z2x10, z2x11, z2x12, z2x13, z2x14, z2x15, z2x16) () z2k0 y3_ = curfewref10_Times_l0_F ipT (fun z y => curfewref10_Times_l0 k z y) z2x0 z2x1 z2x2 z2x3 z2x4 z2x5 z2x6 z2x7 z2x8 z2x9 z2x10 z2x11 z2x12 z2x13 z2x14 z2x15 z2x16 z2k0 y3_ := by kernel_rfl
theorem q25_0_r (k : Nat) (z2x0 : List Int) (z2x1 : Int) (z2x2 : Bool) (z2x3 z2x4 z2x5 z2x6 z2x7 z2x8 z2x9 z2x10 z2x11 z2x12 z2x13 z2x14 z2x15 : Int) (z2x16 : Bool) (z2k0 : Nat) (y3_ : curfewref10_Times_l0_Y) : curfewref10_Times_l0 (k + 1) (z2x0, z2x1, z2x2, z2x3, z2x4, z2x5, z2x6, z2x7, z2x8, z2x9, z2x10, z2x11, z2x12, z2x13, z2x14, z2x15, z2x16) y3_ → curfewref10_Times_l0_F ipT (fun z y => curfewref10_Times_l0 k z y) z2x0 z2x1 z2x2 z2x3 z2x4 z2x5 z2x6 z2x7 z2x8 z2x9 z2x10 z2x11 z2x12 z2x13 z2x14 z2x15 z2x16 z2k0 y3_ := by
  unfold curfewref10_Times_l0_F
  intro h; simp only [curfewref10_Times_l0] at h; revert h
  refine MI.run ?_
  repeat' (first | intro _ | with_reducible constructor)
theorem q25_0_ok (n : Nat) : Owed q25_cx okT 25 q25_lp (n + 1) q25_0_lp := owed_rnd (lk := q25_0_k) (l := curfewref10_Times_l0) (fun z y h => h) fun k z q c y h => Eq.mpr (q25_0_t n k z.1 z.2.1 z.2.2.1 z.2.2.2.1 z.2.2.2.2.1 z.2.2.2.2.2.1 z.2.2.2.2.2.2.1 z.2.2.2.2.2.2.2.1 z.2.2.2.2.2.2.2.2.1 z.2.2.2.2.2.2.2.2.2.1 z.2.2.2.2.2.2.2.2.2.2.1 z.2.2.2.2.2.2.2.2.2.2.2.1 z.2.2.2.2.2.2.2.2.2.2.2.2.1 z.2.2.2.2.2.2.2.2.2.2.2.2.2.1 z.2.2.2.2.2.2.2.2.2.2.2.2.2.2.1 z.2.2.2.2.2.2.2.2.2.2.2.2.2.2.2.1 z.2.2.2.2.2.2.2.2.2.2.2.2.2.2.2.2 c y) (q25_0_r k z.1 z.2.1 z.2.2.1 z.2.2.2.1 z.2.2.2.2.1 z.2.2.2.2.2.1 z.2.2.2.2.2.2.1 z.2.2.2.2.2.2.2.1 z.2.2.2.2.2.2.2.2.1 z.2.2.2.2.2.2.2.2.2.1 z.2.2.2.2.2.2.2.2.2.2.1 z.2.2.2.2.2.2.2.2.2.2.2.1 z.2.2.2.2.2.2.2.2.2.2.2.2.1 z.2.2.2.2.2.2.2.2.2.2.2.2.2.1 z.2.2.2.2.2.2.2.2.2.2.2.2.2.2.1 z.2.2.2.2.2.2.2.2.2.2.2.2.2.2.2.1 z.2.2.2.2.2.2.2.2.2.2.2.2.2.2.2.2 c y h)
def curfewref10_Times_F (i : Ip) (a0 : Int) (a1 : Bool) (a2 a3 a4 a5 a6 a7 a8 a9 a10 a11 a12 a13 : Int) (y : List Int) : Prop :=
  (∃ y1 : Int × Bool, (curfewref10_First_R a0 a1 a2 a3 a4 a5 a6 a7 a8 a9 a10 a11 y1) ∧ (i.lo none q25_0_body (i.te [(V.row 2 1 0 0)] [] (∃ y7 : curfewref10_Times_l0_Y, curfewref10_Times_l0_L ([], a0, a1, a2, a3, a4, a5, a6, a7, a8, a9, a10, a11, a12, a13, (y1.1), (y1.2)) y7 ∧ (i.cq [.nat] fun y7c => (i.tr (true && ((Nat.beq (List.length y7) (List.length y7)) && (Nat.beq y7c y7c))) (band rfl (band (Nat.beq_refl _) (Nat.beq_refl _))) (y7 = y)))))))
def curfewref10_Times_R (a0 : Int) (a1 : Bool) (a2 a3 a4 a5 a6 a7 a8 a9 a10 a11 a12 a13 : Int) (y : List Int) : Prop :=
  (∃ y1 : Int × Bool, (curfewref10_First_R a0 a1 a2 a3 a4 a5 a6 a7 a8 a9 a10 a11 y1) ∧ (∃ y7 : curfewref10_Times_l0_Y, curfewref10_Times_l0_L ([], a0, a1, a2, a3, a4, a5, a6, a7, a8, a9, a10, a11, a12, a13, (y1.1), (y1.2)) y7 ∧ (y7 = y)))
theorem q25_t (a0 : Int) (a1 : Bool) (a2 a3 a4 a5 a6 a7 a8 a9 a10 a11 a12 a13 : Int) (y : List Int) : acall q25_cx okT q25_lp 60 (.fn 25 [] []) [(V.agg [(V.int .u32 a0), (vb a1), (vu a2), (vu a3), (vu a4), (vu a5), (vu a6), (vi a7), (vi a8), (vi a9), (vi a10)]), (V.agg [(vi a11), (vi a12)]), (vi a13)] [] (leafK B25 y) = curfewref10_Times_F ipT a0 a1 a2 a3 a4 a5 a6 a7 a8 a9 a10 a11 a12 a13 y := by kernel_rfl
theorem q25_r (a0 : Int) (a1 : Bool) (a2 a3 a4 a5 a6 a7 a8 a9 a10 a11 a12 a13 : Int) (y : List Int) : curfewref10_Times_R a0 a1 a2 a3 a4 a5 a6 a7 a8 a9 a10 a11 a12 a13 y → curfewref10_Times_F ipT a0 a1 a2 a3 a4 a5 a6 a7 a8 a9 a10 a11 a12 a13 y := by
  unfold curfewref10_Times_R curfewref10_Times_F
  refine MI.run ?_
  repeat' (first | intro _ | with_reducible constructor)
abbrev r25 (x : A25.den) (y : B25.den) : Prop := curfewref10_Times_R (x.1.1) (x.1.2.1) (x.1.2.2.1) (x.1.2.2.2.1) (x.1.2.2.2.2.1) (x.1.2.2.2.2.2.1) (x.1.2.2.2.2.2.2.1) (x.1.2.2.2.2.2.2.2.1) (x.1.2.2.2.2.2.2.2.2.1) (x.1.2.2.2.2.2.2.2.2.2.1) (x.1.2.2.2.2.2.2.2.2.2.2) (x.2.1.1) (x.2.1.2) (x.2.2) y
theorem curfewref10_Times_ok : FxOk Tryz.prog gsT 25 A25 B25 r25 := fo (c := q25_cx) rfl rfl (Fns_assoc ⟨curfewref10_First_ok, b25, trivial⟩) (lp := q25_lp) (n := 60) (LpOk_tab ⟨q25_0_ok, trivial⟩) (enters Tryz.func25 (by kernel_rfl) rfl) (fun y => ⟨_, rfl⟩) fun x y h => Eq.mpr (q25_t _ _ _ _ _ _ _ _ _ _ _ _ _ _ y) (q25_r _ _ _ _ _ _ _ _ _ _ _ _ _ _ y h)
def e25 : Nat × Ent := (25, .fx A25 B25 r25)
end Go.Proofs.YtjbpihalfaclkaaGreatDoor
