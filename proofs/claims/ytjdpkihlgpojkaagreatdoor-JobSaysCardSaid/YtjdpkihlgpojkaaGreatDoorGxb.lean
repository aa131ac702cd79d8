/- What Go functions come to (printed by gb.py). -/
import Derived.Test.YtjdpkihlgpojkaaGreatDoorGxa
namespace Go.Proofs.YtjdpkihlgpojkaaGreatDoor
open Go Go.B Go.RowKit
set_option linter.unusedVariables false
set_option linter.unusedSimpArgs false
set_option maxRecDepth 100000
attribute [local irreducible] Go.B.acall Go.B.acode
theorem q24_t (a0 : ByteArray) (y : (Int × Int × Int × Int × Int) × Bool) : acall q24_cx okT lpT 60 (.fn 24 [] []) [(V.str a0)] [] (leafK B24 y) = cron_Macro_R a0 y := by kernel_rfl
abbrev r24 (x : A24.den) (y : B24.den) : Prop := cron_Macro_R x y
theorem cron_Macro_ok : FxOk Tryz.prog gsT 24 A24 B24 r24 := fo (c := q24_cx) rfl rfl (Fns_assoc ⟨cron_Read0_ok, b24, trivial⟩) (n := 60) (lp_ok) (enters Tryz.func24 (by kernel_rfl) rfl) (fun y => ⟨_, rfl⟩) fun x y h => Eq.mpr (q24_t _ y) h
def e24 : Nat × Ent := (24, .fx A24 B24 r24)
abbrev A13 : RT := (.one .str)
abbrev B13 : RT := (.tup (.cons (.agg (.cons (.int .u64) (.cons (.int .u64) (.cons (.int .u64) (.cons (.int .u64) (.one (.int .u64))))))) (.cons (.int .i64) (.one (.int .i64)))))
noncomputable def q13_cx : Cx := ⟨tyT, [c13, c22, c23, e24, e25, c36, e37, e38], gsT, eqT, false⟩
noncomputable def q13_0_body : Code := subC [1, 0, 0] (bodyOf Tryz.f36)
abbrev cron_Read_l0_Z : Type := Int × Int × Int × Int × Int × Int × Int × ByteArray × Int
abbrev cron_Read_l0_Y : Type := (Int × Int × Int × Int × Int × Int × Int) ⊕ ((Int × Int × Int × Int × Int × Int × Int × Int) ⊕ (Int × Int × Int × Int × Int × Int × Int))
noncomputable def q13_0_k : LK := ⟨9, ⟨[(0, .yld 8), (1, .ptr 6 0), (3, .w 8)], [.cells [.li .u64 0, .li .u64 0, .li .u64 0, .li .u64 0, .li .u64 0], .cells [.w 0, .w 1, .w 2, .w 3, .w 4], .cells [.ptr 1 0, .ptr 1 1, .ptr 1 2, .ptr 1 3, .ptr 1 4], .cells [.w 5], .cells [.w 6], .cells [.li .i64 (-1)], .cells [.w 7], .dfr, .loop .ready none 13 [23, 24] w8 w9 [(5, .ptr 1 0), (6, .ptr 2 0), (7, .ptr 3 0), (8, .ptr 4 0), (9, .ptr 5 0)] 7], []⟩, [.int .u64, .int .u64, .int .u64, .int .u64, .int .u64, .int .i64, .int .i64, .str, .int .i64], [], [], [7], [⟨.ret, ⟨[], [.cells [.li .u64 0, .li .u64 0, .li .u64 0, .li .u64 0, .li .u64 0], .cells [.w 0, .w 1, .w 2, .w 3, .w 4], .cells [.ptr 1 0, .ptr 1 1, .ptr 1 2, .ptr 1 3, .ptr 1 4], .cells [.w 5], .cells [.w 6], .cells [.li .i64 (-1)], .cells [.e (.p 0)], .dfr, .loop .ready none 13 [23, 24] w8 w9 [(5, .ptr 1 0), (6, .ptr 2 0), (7, .ptr 3 0), (8, .ptr 4 0), (9, .ptr 5 0)] 7], []⟩, [.int .u64, .int .u64, .int .u64, .int .u64, .int .u64, .int .i64, .int .i64], [], some [0]⟩, ⟨.ret, ⟨[], [.cells [.li .u64 0, .li .u64 0, .li .u64 0, .li .u64 0, .li .u64 0], .cells [.w 0, .w 1, .w 2, .w 3, .w 4], .cells [.ptr 1 0, .ptr 1 1, .ptr 1 2, .ptr 1 3, .ptr 1 4], .cells [.w 5], .cells [.w 6], .cells [.w 7], .cells [.e (.p 0)], .dfr, .loop .done (some (.exit 0)) 13 [23, 24] w8 w9 [(5, .ptr 1 0), (6, .ptr 2 0), (7, .ptr 3 0), (8, .ptr 4 0), (9, .ptr 5 0)] 7], []⟩, [.int .u64, .int .u64, .int .u64, .int .u64, .int .u64, .int .i64, .int .i64, .int .i64], [], some [4]⟩, ⟨(.exit 0), ⟨[], [.cells [.li .u64 0, .li .u64 0, .li .u64 0, .li .u64 0, .li .u64 0], .cells [.w 0, .w 1, .w 2, .w 3, .w 4], .cells [.ptr 1 0, .ptr 1 1, .ptr 1 2, .ptr 1 3, .ptr 1 4], .cells [.w 5], .cells [.w 6], .cells [.li .i64 (-1)], .cells [.e (.p 0)], .dfr, .loop .ready none 13 [23, 24] w8 w9 [(5, .ptr 1 0), (6, .ptr 2 0), (7, .ptr 3 0), (8, .ptr 4 0), (9, .ptr 5 0)] 7], []⟩, [.int .u64, .int .u64, .int .u64, .int .u64, .int .u64, .int .i64, .int .i64], [], none⟩]⟩
def cron_Read_l0_j0 (l : cron_Read_l0_Z → cron_Read_l0_Y → Prop) (p0 : Int) (p1 : ByteArray × ByteArray × Bool) (p2 : ByteArray) (p3 p4 p5 p6 p7 : Int) (p8 : ByteArray) (p9 : Int) (y2_ : cron_Read_l0_Y) : Prop :=
  (∃ y6 : Int × Int × Int, (field_Read_R p0 (p1.1) y6) ∧ (req ((decide (0 ≤ p0)) && (decide (p0 < 5))) (br ((((offN 0 p0 1) : Nat) : Int) == 0) (br (!((y6.2.2) == 0)) (br (!((y6.2.2) == 0)) ((Sum.inr (Sum.inl ((y6.1), p3, p4, p5, p6, p0, p7, (IntKind.wrap .i64 ((IntKind.wrap .i64 (((ByteArray.size p2 : Nat) : Int) - ((ByteArray.size p8 : Nat) : Int))) + (y6.2.1)))))) = y2_) (l ((y6.1), p3, p4, p5, p6, (IntKind.wrap .i64 (p0 + 1)), p7, p2, (IntKind.wrap .i64 ((IntKind.wrap .i64 (((ByteArray.size p2 : Nat) : Int) - ((ByteArray.size p8 : Nat) : Int))) + ((ByteArray.size (p1.1) : Nat) : Int)))) y2_)) (br (!((y6.2.2) == 0)) ((Sum.inr (Sum.inl ((y6.1), p3, p4, p5, p6, p0, p7, (IntKind.wrap .i64 (((ByteArray.size p2 : Nat) : Int) - ((ByteArray.size p8 : Nat) : Int)))))) = y2_) (l ((y6.1), p3, p4, p5, p6, (IntKind.wrap .i64 (p0 + 1)), p7, p2, (IntKind.wrap .i64 ((IntKind.wrap .i64 (((ByteArray.size p2 : Nat) : Int) - ((ByteArray.size p8 : Nat) : Int))) + ((ByteArray.size (p1.1) : Nat) : Int)))) y2_))) (br ((((offN 0 p0 1) : Nat) : Int) == 1) (br (!((y6.2.2) == 0)) (br (!((y6.2.2) == 0)) ((Sum.inr (Sum.inl (p9, (y6.1), p4, p5, p6, p0, p7, (IntKind.wrap .i64 ((IntKind.wrap .i64 (((ByteArray.size p2 : Nat) : Int) - ((ByteArray.size p8 : Nat) : Int))) + (y6.2.1)))))) = y2_) (l (p9, (y6.1), p4, p5, p6, (IntKind.wrap .i64 (p0 + 1)), p7, p2, (IntKind.wrap .i64 ((IntKind.wrap .i64 (((ByteArray.size p2 : Nat) : Int) - ((ByteArray.size p8 : Nat) : Int))) + ((ByteArray.size (p1.1) : Nat) : Int)))) y2_)) (br (!((y6.2.2) == 0)) ((Sum.inr (Sum.inl (p9, (y6.1), p4, p5, p6, p0, p7, (IntKind.wrap .i64 (((ByteArray.size p2 : Nat) : Int) - ((ByteArray.size p8 : Nat) : Int)))))) = y2_) (l (p9, (y6.1), p4, p5, p6, (IntKind.wrap .i64 (p0 + 1)), p7, p2, (IntKind.wrap .i64 ((IntKind.wrap .i64 (((ByteArray.size p2 : Nat) : Int) - ((ByteArray.size p8 : Nat) : Int))) + ((ByteArray.size (p1.1) : Nat) : Int)))) y2_))) (br ((((offN 0 p0 1) : Nat) : Int) == 2) (br (!((y6.2.2) == 0)) (br (!((y6.2.2) == 0)) ((Sum.inr (Sum.inl (p9, p3, (y6.1), p5, p6, p0, p7, (IntKind.wrap .i64 ((IntKind.wrap .i64 (((ByteArray.size p2 : Nat) : Int) - ((ByteArray.size p8 : Nat) : Int))) + (y6.2.1)))))) = y2_) (l (p9, p3, (y6.1), p5, p6, (IntKind.wrap .i64 (p0 + 1)), p7, p2, (IntKind.wrap .i64 ((IntKind.wrap .i64 (((ByteArray.size p2 : Nat) : Int) - ((ByteArray.size p8 : Nat) : Int))) + ((ByteArray.size (p1.1) : Nat) : Int)))) y2_)) (br (!((y6.2.2) == 0)) ((Sum.inr (Sum.inl (p9, p3, (y6.1), p5, p6, p0, p7, (IntKind.wrap .i64 (((ByteArray.size p2 : Nat) : Int) - ((ByteArray.size p8 : Nat) : Int)))))) = y2_) (l (p9, p3, (y6.1), p5, p6, (IntKind.wrap .i64 (p0 + 1)), p7, p2, (IntKind.wrap .i64 ((IntKind.wrap .i64 (((ByteArray.size p2 : Nat) : Int) - ((ByteArray.size p8 : Nat) : Int))) + ((ByteArray.size (p1.1) : Nat) : Int)))) y2_))) (br ((((offN 0 p0 1) : Nat) : Int) == 3) (br (!((y6.2.2) == 0)) (br (!((y6.2.2) == 0)) ((Sum.inr (Sum.inl (p9, p3, p4, (y6.1), p6, p0, p7, (IntKind.wrap .i64 ((IntKind.wrap .i64 (((ByteArray.size p2 : Nat) : Int) - ((ByteArray.size p8 : Nat) : Int))) + (y6.2.1)))))) = y2_) (l (p9, p3, p4, (y6.1), p6, (IntKind.wrap .i64 (p0 + 1)), p7, p2, (IntKind.wrap .i64 ((IntKind.wrap .i64 (((ByteArray.size p2 : Nat) : Int) - ((ByteArray.size p8 : Nat) : Int))) + ((ByteArray.size (p1.1) : Nat) : Int)))) y2_)) (br (!((y6.2.2) == 0)) ((Sum.inr (Sum.inl (p9, p3, p4, (y6.1), p6, p0, p7, (IntKind.wrap .i64 (((ByteArray.size p2 : Nat) : Int) - ((ByteArray.size p8 : Nat) : Int)))))) = y2_) (l (p9, p3, p4, (y6.1), p6, (IntKind.wrap .i64 (p0 + 1)), p7, p2, (IntKind.wrap .i64 ((IntKind.wrap .i64 (((ByteArray.size p2 : Nat) : Int) - ((ByteArray.size p8 : Nat) : Int))) + ((ByteArray.size (p1.1) : Nat) : Int)))) y2_))) (br ((((offN 0 p0 1) : Nat) : Int) == 4) (br (!((y6.2.2) == 0)) (br (!((y6.2.2) == 0)) ((Sum.inr (Sum.inl (p9, p3, p4, p5, (y6.1), p0, p7, (IntKind.wrap .i64 ((IntKind.wrap .i64 (((ByteArray.size p2 : Nat) : Int) - ((ByteArray.size p8 : Nat) : Int))) + (y6.2.1)))))) = y2_) (l (p9, p3, p4, p5, (y6.1), (IntKind.wrap .i64 (p0 + 1)), p7, p2, (IntKind.wrap .i64 ((IntKind.wrap .i64 (((ByteArray.size p2 : Nat) : Int) - ((ByteArray.size p8 : Nat) : Int))) + ((ByteArray.size (p1.1) : Nat) : Int)))) y2_)) (br (!((y6.2.2) == 0)) ((Sum.inr (Sum.inl (p9, p3, p4, p5, (y6.1), p0, p7, (IntKind.wrap .i64 (((ByteArray.size p2 : Nat) : Int) - ((ByteArray.size p8 : Nat) : Int)))))) = y2_) (l (p9, p3, p4, p5, (y6.1), (IntKind.wrap .i64 (p0 + 1)), p7, p2, (IntKind.wrap .i64 ((IntKind.wrap .i64 (((ByteArray.size p2 : Nat) : Int) - ((ByteArray.size p8 : Nat) : Int))) + ((ByteArray.size (p1.1) : Nat) : Int)))) y2_))) False)))))))
def cron_Read_l0_j0F (i : Ip) (l : cron_Read_l0_Z → cron_Read_l0_Y → Prop) (p0 : Int) (p1 : ByteArray × ByteArray × Bool) (p2 : ByteArray) (p3 p4 p5 p6 p7 : Int) (p8 : ByteArray) (p9 : Int) (y2_ : cron_Read_l0_Y) : Prop :=
  (∃ y6 : Int × Int × Int, (field_Read_R p0 (p1.1) y6) ∧ (i.rq ((decide (0 ≤ p0)) && (decide (p0 < 5))) (br ((((offN 0 p0 1) : Nat) : Int) == 0) (br (!((y6.2.2) == 0)) (br (!((y6.2.2) == 0)) (i.te [(V.str p2)] [(((some (.exit 0)) : Option Code), (subC [1, 0, 1, 1, 1, 1, 0, 1, 0, 0] (bodyOf Tryz.f13)), (subC [1, 0, 1, 1, 1, 1, 0, 1, 0, 1] (bodyOf Tryz.f13)))] ((Sum.inr (Sum.inl ((y6.1), p3, p4, p5, p6, p0, p7, (IntKind.wrap .i64 ((IntKind.wrap .i64 (((ByteArray.size p2 : Nat) : Int) - ((ByteArray.size p8 : Nat) : Int))) + (y6.2.1)))))) = y2_)) (i.tk [((none : Option Code), (subC [1, 0, 1, 1, 1, 1, 0, 1, 0, 0] (bodyOf Tryz.f13)), (subC [1, 0, 1, 1, 1, 1, 0, 1, 0, 1] (bodyOf Tryz.f13)))] (i.tq [(V.str p2)] (l ((y6.1), p3, p4, p5, p6, (IntKind.wrap .i64 (p0 + 1)), p7, p2, (IntKind.wrap .i64 ((IntKind.wrap .i64 (((ByteArray.size p2 : Nat) : Int) - ((ByteArray.size p8 : Nat) : Int))) + ((ByteArray.size (p1.1) : Nat) : Int)))) y2_)))) (br (!((y6.2.2) == 0)) (i.te [(V.str p2)] [(((some (.exit 0)) : Option Code), (subC [1, 0, 1, 1, 1, 1, 0, 1, 0, 0] (bodyOf Tryz.f13)), (subC [1, 0, 1, 1, 1, 1, 0, 1, 0, 1] (bodyOf Tryz.f13)))] ((Sum.inr (Sum.inl ((y6.1), p3, p4, p5, p6, p0, p7, (IntKind.wrap .i64 (((ByteArray.size p2 : Nat) : Int) - ((ByteArray.size p8 : Nat) : Int)))))) = y2_)) (i.tk [((none : Option Code), (subC [1, 0, 1, 1, 1, 1, 0, 1, 0, 0] (bodyOf Tryz.f13)), (subC [1, 0, 1, 1, 1, 1, 0, 1, 0, 1] (bodyOf Tryz.f13)))] (i.tq [(V.str p2)] (l ((y6.1), p3, p4, p5, p6, (IntKind.wrap .i64 (p0 + 1)), p7, p2, (IntKind.wrap .i64 ((IntKind.wrap .i64 (((ByteArray.size p2 : Nat) : Int) - ((ByteArray.size p8 : Nat) : Int))) + ((ByteArray.size (p1.1) : Nat) : Int)))) y2_))))) (br ((((offN 0 p0 1) : Nat) : Int) == 1) (br (!((y6.2.2) == 0)) (br (!((y6.2.2) == 0)) (i.te [(V.str p2)] [(((some (.exit 0)) : Option Code), (subC [1, 0, 1, 1, 1, 1, 0, 1, 0, 0] (bodyOf Tryz.f13)), (subC [1, 0, 1, 1, 1, 1, 0, 1, 0, 1] (bodyOf Tryz.f13)))] ((Sum.inr (Sum.inl (p9, (y6.1), p4, p5, p6, p0, p7, (IntKind.wrap .i64 ((IntKind.wrap .i64 (((ByteArray.size p2 : Nat) : Int) - ((ByteArray.size p8 : Nat) : Int))) + (y6.2.1)))))) = y2_)) (i.tk [((none : Option Code), (subC [1, 0, 1, 1, 1, 1, 0, 1, 0, 0] (bodyOf Tryz.f13)), (subC [1, 0, 1, 1, 1, 1, 0, 1, 0, 1] (bodyOf Tryz.f13)))] (i.tq [(V.str p2)] (l (p9, (y6.1), p4, p5, p6, (IntKind.wrap .i64 (p0 + 1)), p7, p2, (IntKind.wrap .i64 ((IntKind.wrap .i64 (((ByteArray.size p2 : Nat) : Int) - ((ByteArray.size p8 : Nat) : Int))) + ((ByteArray.size (p1.1) : Nat) : Int)))) y2_)))) (br (!((y6.2.2) == 0)) (i.te [(V.str p2)] [(((some (.exit 0)) : Option Code), (subC [1, 0, 1, 1, 1, 1, 0, 1, 0, 0] (bodyOf Tryz.f13)), (subC [1, 0, 1, 1, 1, 1, 0, 1, 0, 1] (bodyOf Tryz.f13)))] ((Sum.inr (Sum.inl (p9, (y6.1), p4, p5, p6, p0, p7, (IntKind.wrap .i64 (((ByteArray.size p2 : Nat) : Int) - ((ByteArray.size p8 : Nat) : Int)))))) = y2_)) (i.tk [((none : Option Code), (subC [1, 0, 1, 1, 1, 1, 0, 1, 0, 0] (bodyOf Tryz.f13)), (subC [1, 0, 1, 1, 1, 1, 0, 1, 0, 1] (bodyOf Tryz.f13)))] (i.tq [(V.str p2)] (l (p9, (y6.1), p4, p5, p6, (IntKind.wrap .i64 (p0 + 1)), p7, p2, (IntKind.wrap .i64 ((IntKind.wrap .i64 (((ByteArray.size p2 : Nat) : Int) - ((ByteArray.size p8 : Nat) : Int))) + ((ByteArray.size (p1.1) : Nat) : Int)))) y2_))))) (br ((((offN 0 p0 1) : Nat) : Int) == 2) (br (!((y6.2.2) == 0)) (br (!((y6.2.2) == 0)) (i.te [(V.str p2)] [(((some (.exit 0)) : Option Code), (subC [1, 0, 1, 1, 1, 1, 0, 1, 0, 0] (bodyOf Tryz.f13)), (subC [1, 0, 1, 1, 1, 1, 0, 1, 0, 1] (bodyOf Tryz.f13)))] ((Sum.inr (Sum.inl (p9, p3, (y6.1), p5, p6, p0, p7, (IntKind.wrap .i64 ((IntKind.wrap .i64 (((ByteArray.size p2 : Nat) : Int) - ((ByteArray.size p8 : Nat) : Int))) + (y6.2.1)))))) = y2_)) (i.tk [((none : Option Code), (subC [1, 0, 1, 1, 1, 1, 0, 1, 0, 0] (bodyOf Tryz.f13)), (subC [1, 0, 1, 1, 1, 1, 0, 1, 0, 1] (bodyOf Tryz.f13)))] (i.tq [(V.str p2)] (l (p9, p3, (y6.1), p5, p6, (IntKind.wrap .i64 (p0 + 1)), p7, p2, (IntKind.wrap .i64 ((IntKind.wrap .i64 (((ByteArray.size p2 : Nat) : Int) - ((ByteArray.size p8 : Nat) : Int))) + ((ByteArray.size (p1.1) : Nat) : Int)))) y2_)))) (br (!((y6.2.2) == 0)) (i.te [(V.str p2)] [(((some (.exit 0)) : Option Code), (subC [1, 0, 1, 1, 1, 1, 0, 1, 0, 0] (bodyOf Tryz.f13)), (subC [1, 0, 1, 1, 1, 1, 0, 1, 0, 1] (bodyOf Tryz.f13)))] ((Sum.inr (Sum.inl (p9, p3, (y6.1), p5, p6, p0, p7, (IntKind.wrap .i64 (((ByteArray.size p2 : Nat) : Int) - ((ByteArray.size p8 : Nat) : Int)))))) = y2_)) (i.tk [((none : Option Code), (subC [1, 0, 1, 1, 1, 1, 0, 1, 0, 0] (bodyOf Tryz.f13)), (subC [1, 0, 1, 1, 1, 1, 0, 1, 0, 1] (bodyOf Tryz.f13)))] (i.tq [(V.str p2)] (l (p9, p3, (y6.1), p5, p6, (IntKind.wrap .i64 (p0 + 1)), p7, p2, (IntKind.wrap .i64 ((IntKind.wrap .i64 (((ByteArray.size p2 : Nat) : Int) - ((ByteArray.size p8 : Nat) : Int))) + ((ByteArray.size (p1.1) : Nat) : Int)))) y2_))))) (br ((((offN 0 p0 1) : Nat) : Int) == 3) (br (!((y6.2.2) == 0)) (br (!((y6.2.2) == 0)) (i.te [(V.str p2)] [(((some (.exit 0)) : Option Code), (subC [1, 0, 1, 1, 1, 1, 0, 1, 0, 0] (bodyOf Tryz.f13)), (subC [1, 0, 1, 1, 1, 1, 0, 1, 0, 1] (bodyOf Tryz.f13)))] ((Sum.inr (Sum.inl (p9, p3, p4, (y6.1), p6, p0, p7, (IntKind.wrap .i64 ((IntKind.wrap .i64 (((ByteArray.size p2 : Nat) : Int) - ((ByteArray.size p8 : Nat) : Int))) + (y6.2.1)))))) = y2_)) (i.tk [((none : Option Code), (subC [1, 0, 1, 1, 1, 1, 0, 1, 0, 0] (bodyOf Tryz.f13)), (subC [1, 0, 1, 1, 1, 1, 0, 1, 0, 1] (bodyOf Tryz.f13)))] (i.tq [(V.str p2)] (l (p9, p3, p4, (y6.1), p6, (IntKind.wrap .i64 (p0 + 1)), p7, p2, (IntKind.wrap .i64 ((IntKind.wrap .i64 (((ByteArray.size p2 : Nat) : Int) - ((ByteArray.size p8 : Nat) : Int))) + ((ByteArray.size (p1.1) : Nat) : Int)))) y2_)))) (br (!((y6.2.2) == 0)) (i.te [(V.str p2)] [(((some (.exit 0)) : Option Code), (subC [1, 0, 1, 1, 1, 1, 0, 1, 0, 0] (bodyOf Tryz.f13)), (subC [1, 0, 1, 1, 1, 1, 0, 1, 0, 1] (bodyOf Tryz.f13)))] ((Sum.inr (Sum.inl (p9, p3, p4, (y6.1), p6, p0, p7, (IntKind.wrap .i64 (((ByteArray.size p2 : Nat) : Int) - ((ByteArray.size p8 : Nat) : Int)))))) = y2_)) (i.tk [((none : Option Code), (subC [1, 0, 1, 1, 1, 1, 0, 1, 0, 0] (bodyOf Tryz.f13)), (subC [1, 0, 1, 1, 1, 1, 0, 1, 0, 1] (bodyOf Tryz.f13)))] (i.tq [(V.str p2)] (l (p9, p3, p4, (y6.1), p6, (IntKind.wrap .i64 (p0 + 1)), p7, p2, (IntKind.wrap .i64 ((IntKind.wrap .i64 (((ByteArray.size p2 : Nat) : Int) - ((ByteArray.size p8 : Nat) : Int))) + ((ByteArray.size (p1.1) : Nat) : Int)))) y2_))))) (br ((((offN 0 p0 1) : Nat) : Int) == 4) (br (!((y6.2.2) == 0)) (br (!((y6.2.2) == 0)) (i.te [(V.str p2)] [(((some (.exit 0)) : Option Code), (subC [1, 0, 1, 1, 1, 1, 0, 1, 0, 0] (bodyOf Tryz.f13)), (subC [1, 0, 1, 1, 1, 1, 0, 1, 0, 1] (bodyOf Tryz.f13)))] ((Sum.inr (Sum.inl (p9, p3, p4, p5, (y6.1), p0, p7, (IntKind.wrap .i64 ((IntKind.wrap .i64 (((ByteArray.size p2 : Nat) : Int) - ((ByteArray.size p8 : Nat) : Int))) + (y6.2.1)))))) = y2_)) (i.tk [((none : Option Code), (subC [1, 0, 1, 1, 1, 1, 0, 1, 0, 0] (bodyOf Tryz.f13)), (subC [1, 0, 1, 1, 1, 1, 0, 1, 0, 1] (bodyOf Tryz.f13)))] (i.tq [(V.str p2)] (l (p9, p3, p4, p5, (y6.1), (IntKind.wrap .i64 (p0 + 1)), p7, p2, (IntKind.wrap .i64 ((IntKind.wrap .i64 (((ByteArray.size p2 : Nat) : Int) - ((ByteArray.size p8 : Nat) : Int))) + ((ByteArray.size (p1.1) : Nat) : Int)))) y2_)))) (br (!((y6.2.2) == 0)) (i.te [(V.str p2)] [(((some (.exit 0)) : Option Code), (subC [1, 0, 1, 1, 1, 1, 0, 1, 0, 0] (bodyOf Tryz.f13)), (subC [1, 0, 1, 1, 1, 1, 0, 1, 0, 1] (bodyOf Tryz.f13)))] ((Sum.inr (Sum.inl (p9, p3, p4, p5, (y6.1), p0, p7, (IntKind.wrap .i64 (((ByteArray.size p2 : Nat) : Int) - ((ByteArray.size p8 : Nat) : Int)))))) = y2_)) (i.tk [((none : Option Code), (subC [1, 0, 1, 1, 1, 1, 0, 1, 0, 0] (bodyOf Tryz.f13)), (subC [1, 0, 1, 1, 1, 1, 0, 1, 0, 1] (bodyOf Tryz.f13)))] (i.tq [(V.str p2)] (l (p9, p3, p4, p5, (y6.1), (IntKind.wrap .i64 (p0 + 1)), p7, p2, (IntKind.wrap .i64 ((IntKind.wrap .i64 (((ByteArray.size p2 : Nat) : Int) - ((ByteArray.size p8 : Nat) : Int))) + ((ByteArray.size (p1.1) : Nat) : Int)))) y2_))))) False)))))))
theorem cron_Read_l0_j0_r (l : cron_Read_l0_Z → cron_Read_l0_Y → Prop) (p0 : Int) (p1 : ByteArray × ByteArray × Bool) (p2 : ByteArray) (p3 p4 p5 p6 p7 : Int) (p8 : ByteArray) (p9 : Int) (y2_ : cron_Read_l0_Y) : MI (cron_Read_l0_j0 l p0 p1 p2 p3 p4 p5 p6 p7 p8 p9 y2_) (cron_Read_l0_j0F ipT l p0 p1 p2 p3 p4 p5 p6 p7 p8 p9 y2_) := by
  unfold cron_Read_l0_j0 cron_Read_l0_j0F
  repeat' (first | intro _ | with_reducible constructor)
def cron_Read_l0_F (i : Ip) (l : cron_Read_l0_Z → cron_Read_l0_Y → Prop) (z1x0 z1x1 z1x2 z1x3 z1x4 z1x5 z1x6 : Int) (z1x7 : ByteArray) (z1x8 : Int) (y2_ : cron_Read_l0_Y) : Prop :=
  (br (decide (z1x8 < ((ByteArray.size z1x7 : Nat) : Int))) (i.r2 ((decide (0 ≤ z1x8)) && (Nat.ble (Int.toNat z1x8) (ByteArray.size z1x7))) ((true && (Nat.ble (ByteArray.size z1x7) (ByteArray.size z1x7))) && ((decide (0 ≤ z1x8)) && (Nat.ble (Int.toNat z1x8) (ByteArray.size z1x7)))) (fun q => (band (band rfl (ble_same _)) (band (band_l q) (band_r q)))) (∃ y3 : ByteArray, (strings_TrimLeft_R (ByteArray.extract z1x7 (Int.toNat z1x8) (ByteArray.size z1x7)) (⟨#[32]⟩ : ByteArray) y3) ∧ (∃ y4 : ByteArray × ByteArray × Bool, (strings_Cut_R y3 (⟨#[32]⟩ : ByteArray) y4) ∧ (br (ByteArray.toList (y4.1) == ByteArray.toList (⟨#[]⟩ : ByteArray)) (i.te [(V.str z1x7)] [((none : Option Code), (subC [1, 0, 1, 1, 1, 1, 0, 1, 0, 0] (bodyOf Tryz.f13)), (subC [1, 0, 1, 1, 1, 1, 0, 1, 0, 1] (bodyOf Tryz.f13)))] ((Sum.inl (z1x0, z1x1, z1x2, z1x3, z1x4, z1x5, z1x6)) = y2_)) (br (!(decide (z1x5 < z1x6))) (br (!(decide (z1x5 < z1x6))) (i.te [(V.str z1x7)] [(((some (.exit 0)) : Option Code), (subC [1, 0, 1, 1, 1, 1, 0, 1, 0, 0] (bodyOf Tryz.f13)), (subC [1, 0, 1, 1, 1, 1, 0, 1, 0, 1] (bodyOf Tryz.f13)))] ((Sum.inr (Sum.inl (z1x0, z1x1, z1x2, z1x3, z1x4, z1x5, z1x6, (IntKind.wrap .i64 (((ByteArray.size z1x7 : Nat) : Int) - ((ByteArray.size y3 : Nat) : Int)))))) = y2_)) (i.tk [((none : Option Code), (subC [1, 0, 1, 1, 1, 1, 0, 1, 0, 0] (bodyOf Tryz.f13)), (subC [1, 0, 1, 1, 1, 1, 0, 1, 0, 1] (bodyOf Tryz.f13)))] (i.tq [(V.str z1x7)] (l (z1x0, z1x1, z1x2, z1x3, z1x4, (IntKind.wrap .i64 (z1x5 + 1)), z1x6, z1x7, (IntKind.wrap .i64 ((IntKind.wrap .i64 (((ByteArray.size z1x7 : Nat) : Int) - ((ByteArray.size y3 : Nat) : Int))) + ((ByteArray.size (y4.1) : Nat) : Int)))) y2_)))) (br (z1x5 == 0) (i.r2 (decide (0 < ((ByteArray.size (y4.1) : Nat) : Int))) (true && (decide (0 < ((ByteArray.size (y4.1) : Nat) : Int)))) (fun q => (band rfl q)) (br ((((List.getD (Array.toList (ByteArray.data (y4.1))) 0 0).toNat : Nat) : Int) == 64) (∃ y5 : (Int × Int × Int × Int × Int) × Bool, (cron_Macro_R (y4.1) y5) ∧ (br (!(y5.2)) (i.te [(V.str z1x7)] [(((some (.exit 0)) : Option Code), (subC [1, 0, 1, 1, 1, 1, 0, 1, 0, 0] (bodyOf Tryz.f13)), (subC [1, 0, 1, 1, 1, 1, 0, 1, 0, 1] (bodyOf Tryz.f13)))] ((Sum.inr (Sum.inl ((y5.1.1), (y5.1.2.1), (y5.1.2.2.1), (y5.1.2.2.2.1), (y5.1.2.2.2.2), z1x5, 1, (IntKind.wrap .i64 (((ByteArray.size z1x7 : Nat) : Int) - ((ByteArray.size y3 : Nat) : Int)))))) = y2_)) (i.tk [((none : Option Code), (subC [1, 0, 1, 1, 1, 1, 0, 1, 0, 0] (bodyOf Tryz.f13)), (subC [1, 0, 1, 1, 1, 1, 0, 1, 0, 1] (bodyOf Tryz.f13)))] (i.tq [(V.str z1x7)] (l ((y5.1.1), (y5.1.2.1), (y5.1.2.2.1), (y5.1.2.2.2.1), (y5.1.2.2.2.2), (IntKind.wrap .i64 (z1x5 + 1)), 1, z1x7, (IntKind.wrap .i64 ((IntKind.wrap .i64 (((ByteArray.size z1x7 : Nat) : Int) - ((ByteArray.size y3 : Nat) : Int))) + ((ByteArray.size (y4.1) : Nat) : Int)))) y2_))))) (cron_Read_l0_j0F i l z1x5 y4 z1x7 z1x1 z1x2 z1x3 z1x4 z1x6 y3 z1x0 y2_))) (cron_Read_l0_j0F i l z1x5 y4 z1x7 z1x1 z1x2 z1x3 z1x4 z1x6 y3 z1x0 y2_))))))) (i.te [(V.str z1x7)] [((none : Option Code), (subC [1, 0, 1, 1, 1, 1, 0, 1, 0, 0] (bodyOf Tryz.f13)), (subC [1, 0, 1, 1, 1, 1, 0, 1, 0, 1] (bodyOf Tryz.f13)))] ((Sum.inr (Sum.inr (z1x0, z1x1, z1x2, z1x3, z1x4, z1x5, z1x6))) = y2_)))
def cron_Read_l0 : Nat → cron_Read_l0_Z → cron_Read_l0_Y → Prop
  | 0, _, _ => False
  | k + 1, (z1x0, z1x1, z1x2, z1x3, z1x4, z1x5, z1x6, z1x7, z1x8), y2_ => (br (decide (z1x8 < ((ByteArray.size z1x7 : Nat) : Int))) (req ((decide (0 ≤ z1x8)) && (Nat.ble (Int.toNat z1x8) (ByteArray.size z1x7))) (∃ y3 : ByteArray, (strings_TrimLeft_R (ByteArray.extract z1x7 (Int.toNat z1x8) (ByteArray.size z1x7)) (⟨#[32]⟩ : ByteArray) y3) ∧ (∃ y4 : ByteArray × ByteArray × Bool, (strings_Cut_R y3 (⟨#[32]⟩ : ByteArray) y4) ∧ (br (ByteArray.toList (y4.1) == ByteArray.toList (⟨#[]⟩ : ByteArray)) ((Sum.inl (z1x0, z1x1, z1x2, z1x3, z1x4, z1x5, z1x6)) = y2_) (br (!(decide (z1x5 < z1x6))) (br (!(decide (z1x5 < z1x6))) ((Sum.inr (Sum.inl (z1x0, z1x1, z1x2, z1x3, z1x4, z1x5, z1x6, (IntKind.wrap .i64 (((ByteArray.size z1x7 : Nat) : Int) - ((ByteArray.size y3 : Nat) : Int)))))) = y2_) (cron_Read_l0 k (z1x0, z1x1, z1x2, z1x3, z1x4, (IntKind.wrap .i64 (z1x5 + 1)), z1x6, z1x7, (IntKind.wrap .i64 ((IntKind.wrap .i64 (((ByteArray.size z1x7 : Nat) : Int) - ((ByteArray.size y3 : Nat) : Int))) + ((ByteArray.size (y4.1) : Nat) : Int)))) y2_)) (br (z1x5 == 0) (req (decide (0 < ((ByteArray.size (y4.1) : Nat) : Int))) (br ((((List.getD (Array.toList (ByteArray.data (y4.1))) 0 0).toNat : Nat) : Int) == 64) (∃ y5 : (Int × Int × Int × Int × Int) × Bool, (cron_Macro_R (y4.1) y5) ∧ (br (!(y5.2)) ((Sum.inr (Sum.inl ((y5.1.1), (y5.1.2.1), (y5.1.2.2.1), (y5.1.2.2.2.1), (y5.1.2.2.2.2), z1x5, 1, (IntKind.wrap .i64 (((ByteArray.size z1x7 : Nat) : Int) - ((ByteArray.size y3 : Nat) : Int)))))) = y2_) (cron_Read_l0 k ((y5.1.1), (y5.1.2.1), (y5.1.2.2.1), (y5.1.2.2.2.1), (y5.1.2.2.2.2), (IntKind.wrap .i64 (z1x5 + 1)), 1, z1x7, (IntKind.wrap .i64 ((IntKind.wrap .i64 (((ByteArray.size z1x7 : Nat) : Int) - ((ByteArray.size y3 : Nat) : Int))) + ((ByteArray.size (y4.1) : Nat) : Int)))) y2_))) (cron_Read_l0_j0 (cron_Read_l0 k) z1x5 y4 z1x7 z1x1 z1x2 z1x3 z1x4 z1x6 y3 z1x0 y2_))) (cron_Read_l0_j0 (cron_Read_l0 k) z1x5 y4 z1x7 z1x1 z1x2 z1x3 z1x4 z1x6 y3 z1x0 y2_))))))) ((Sum.inr (Sum.inr (z1x0, z1x1, z1x2, z1x3, z1x4, z1x5, z1x6))) = y2_))
def cron_Read_l0_L (z : cron_Read_l0_Z) (y : cron_Read_l0_Y) : Prop := ∃ k, cron_Read_l0 k z y
noncomputable def q13_0_lp : Lp := .auto none q13_0_body (loopK q13_0_k fun z y => ∃ k, cron_Read_l0 k z y)
noncomputable def q13_lp : Nat → FuncId → Nat → Nat → Lp := lpTab [(36, 1, 9, 2, q13_0_lp)]
theorem q13_0_t (n k : Nat) (z1x0 z1x1 z1x2 z1x3 z1x4 z1x5 z1x6 : Int) (z1x7 : ByteArray) (z1x8 : Int) (y2_ : cron_Read_l0_Y) : rnd q13_cx okT q13_lp (n + 2) 36 none q13_0_body q13_0_k (cron_Read_l0 k) (z1x0, z1x1, z1x2, z1x3, z1x4, z1x5, z1x6, z1x7, z1x8) () () y2_ = cron_Read_l0_F ipT (fun z y => cron_Read_l0 k z y) z1x0 z1x1 z1x2 z1x3 z1x4 z1x5 z1x6 z1x7 z1x8 y2_ := by kernel_rfl
theorem q13_0_r (k : Nat) (z1x0 z1x1 z1x2 z1x3 z1x4 z1x5 z1x6 : Int) (z1x7 : ByteArray) (z1x8 : Int) (y2_ : cron_Read_l0_Y) : cron_Read_l0 (k + 1) (z1x0, z1x1, z1x2, z1x3, z1x4, z1x5, z1x6, z1x7, z1x8) y2_ → cron_Read_l0_F ipT (fun z y => cron_Read_l0 k z y) z1x0 z1x1 z1x2 z1x3 z1x4 z1x5 z1x6 z1x7 z1x8 y2_ := by
  unfold cron_Read_l0_F
  intro h; simp only [cron_Read_l0] at h; revert h
  refine MI.run ?_
  repeat' (first | intro _ | exact cron_Read_l0_j0_r _ _ _ _ _ _ _ _ _ _ _ _ | with_reducible constructor)
theorem q13_0_ok (n : Nat) : Owed q13_cx okT 36 q13_lp (n + 2) q13_0_lp := owed_rnd (lk := q13_0_k) (l := cron_Read_l0) (fun z y h => h) fun k z q c y h => Eq.mpr (q13_0_t n k z.1 z.2.1 z.2.2.1 z.2.2.2.1 z.2.2.2.2.1 z.2.2.2.2.2.1 z.2.2.2.2.2.2.1 z.2.2.2.2.2.2.2.1 z.2.2.2.2.2.2.2.2 y) (q13_0_r k z.1 z.2.1 z.2.2.1 z.2.2.2.1 z.2.2.2.2.1 z.2.2.2.2.2.1 z.2.2.2.2.2.2.1 z.2.2.2.2.2.2.2.1 z.2.2.2.2.2.2.2.2 y h)
def cron_Read_j0 (p0 p1 : Int) (p2 : ByteArray) (p3 p4 p5 p6 p7 : Int) (y : (Int × Int × Int × Int × Int) × Int × Int) : Prop :=
  (br (decide (p0 < p1)) (br (decide (((ByteArray.size p2 : Nat) : Int) ≥ 0)) (((0, (0, (0, (0, 0)))), (((ByteArray.size p2 : Nat) : Int), 170)) = y) (((p3, (p4, (p5, (p6, p7)))), (0, 0)) = y)) (((p3, (p4, (p5, (p6, p7)))), (0, 0)) = y))
def cron_Read_j0F (i : Ip) (p0 p1 : Int) (p2 : ByteArray) (p3 p4 p5 p6 p7 : Int) (y : (Int × Int × Int × Int × Int) × Int × Int) : Prop :=
  (br (decide (p0 < p1)) (br (decide (((ByteArray.size p2 : Nat) : Int) ≥ 0)) (i.an 1 (((0, (0, (0, (0, 0)))), (((ByteArray.size p2 : Nat) : Int), 170)) = y)) (((p3, (p4, (p5, (p6, p7)))), (0, 0)) = y)) (((p3, (p4, (p5, (p6, p7)))), (0, 0)) = y))
theorem cron_Read_j0_r (p0 p1 : Int) (p2 : ByteArray) (p3 p4 p5 p6 p7 : Int) (y : (Int × Int × Int × Int × Int) × Int × Int) : MI (cron_Read_j0 p0 p1 p2 p3 p4 p5 p6 p7 y) (cron_Read_j0F ipT p0 p1 p2 p3 p4 p5 p6 p7 y) := by
  unfold cron_Read_j0 cron_Read_j0F
  repeat' (first | intro _ | with_reducible constructor)
def cron_Read_F (i : Ip) (a0 : ByteArray) (y : (Int × Int × Int × Int × Int) × Int × Int) : Prop :=
  (br (decide (((ByteArray.size a0 : Nat) : Int) > 256)) (((0, (0, (0, (0, 0)))), (0, 3)) = y) (i.lo none q13_0_body (i.tk [((none : Option Code), (subC [1, 0, 1, 1, 1, 1, 0, 1, 0, 0] (bodyOf Tryz.f13)), (subC [1, 0, 1, 1, 1, 1, 0, 1, 0, 1] (bodyOf Tryz.f13)))] (∃ y9 : cron_Read_l0_Y, cron_Read_l0_L (0, 0, 0, 0, 0, 0, 5, a0, 0) y9 ∧ sume (fun y9 => (cron_Read_j0F i (y9.2.2.2.2.2.1) (y9.2.2.2.2.2.2) a0 (y9.1) (y9.2.1) (y9.2.2.1) (y9.2.2.2.1) (y9.2.2.2.2.1) y)) (fun y9 => sume (fun y9 => (br (decide ((y9.2.2.2.2.2.2.2) < 0)) (br (decide ((y9.2.2.2.2.2.1) < (y9.2.2.2.2.2.2.1))) (br (decide (((ByteArray.size a0 : Nat) : Int) ≥ 0)) (i.an 1 (((0, (0, (0, (0, 0)))), (((ByteArray.size a0 : Nat) : Int), 170)) = y)) ((((y9.1), ((y9.2.1), ((y9.2.2.1), ((y9.2.2.2.1), (y9.2.2.2.2.1))))), (0, 0)) = y)) (br (decide ((y9.2.2.2.2.2.2.2) ≥ 0)) (i.an 1 (((0, (0, (0, (0, 0)))), ((y9.2.2.2.2.2.2.2), 170)) = y)) ((((y9.1), ((y9.2.1), ((y9.2.2.1), ((y9.2.2.2.1), (y9.2.2.2.2.1))))), (0, 0)) = y))) (br (decide ((y9.2.2.2.2.2.2.2) ≥ 0)) (i.an 1 (((0, (0, (0, (0, 0)))), ((y9.2.2.2.2.2.2.2), 170)) = y)) ((((y9.1), ((y9.2.1), ((y9.2.2.1), ((y9.2.2.2.1), (y9.2.2.2.2.1))))), (0, 0)) = y)))) (fun y9 => (cron_Read_j0F i (y9.2.2.2.2.2.1) (y9.2.2.2.2.2.2) a0 (y9.1) (y9.2.1) (y9.2.2.1) (y9.2.2.2.1) (y9.2.2.2.2.1) y)) y9) y9))))
def cron_Read_R (a0 : ByteArray) (y : (Int × Int × Int × Int × Int) × Int × Int) : Prop :=
  (br (decide (((ByteArray.size a0 : Nat) : Int) > 256)) (((0, (0, (0, (0, 0)))), (0, 3)) = y) (∃ y9 : cron_Read_l0_Y, cron_Read_l0_L (0, 0, 0, 0, 0, 0, 5, a0, 0) y9 ∧ sume (fun y9 => (cron_Read_j0 (y9.2.2.2.2.2.1) (y9.2.2.2.2.2.2) a0 (y9.1) (y9.2.1) (y9.2.2.1) (y9.2.2.2.1) (y9.2.2.2.2.1) y)) (fun y9 => sume (fun y9 => (br (decide ((y9.2.2.2.2.2.2.2) < 0)) (br (decide ((y9.2.2.2.2.2.1) < (y9.2.2.2.2.2.2.1))) (br (decide (((ByteArray.size a0 : Nat) : Int) ≥ 0)) (((0, (0, (0, (0, 0)))), (((ByteArray.size a0 : Nat) : Int), 170)) = y) ((((y9.1), ((y9.2.1), ((y9.2.2.1), ((y9.2.2.2.1), (y9.2.2.2.2.1))))), (0, 0)) = y)) (br (decide ((y9.2.2.2.2.2.2.2) ≥ 0)) (((0, (0, (0, (0, 0)))), ((y9.2.2.2.2.2.2.2), 170)) = y) ((((y9.1), ((y9.2.1), ((y9.2.2.1), ((y9.2.2.2.1), (y9.2.2.2.2.1))))), (0, 0)) = y))) (br (decide ((y9.2.2.2.2.2.2.2) ≥ 0)) (((0, (0, (0, (0, 0)))), ((y9.2.2.2.2.2.2.2), 170)) = y) ((((y9.1), ((y9.2.1), ((y9.2.2.1), ((y9.2.2.2.1), (y9.2.2.2.2.1))))), (0, 0)) = y)))) (fun y9 => (cron_Read_j0 (y9.2.2.2.2.2.1) (y9.2.2.2.2.2.2) a0 (y9.1) (y9.2.1) (y9.2.2.1) (y9.2.2.2.1) (y9.2.2.2.2.1) y)) y9) y9))
theorem q13_t (a0 : ByteArray) (y : (Int × Int × Int × Int × Int) × Int × Int) : acall q13_cx okT q13_lp 60 (.fn 13 [] []) [(V.str a0)] [] (leafK B13 y) = cron_Read_F ipT a0 y := by kernel_rfl
theorem q13_r (a0 : ByteArray) (y : (Int × Int × Int × Int × Int) × Int × Int) : cron_Read_R a0 y → cron_Read_F ipT a0 y := by
  unfold cron_Read_R cron_Read_F
  refine MI.run ?_
  repeat' (first | intro _ | exact cron_Read_j0_r _ _ _ _ _ _ _ _ _ | with_reducible constructor)
abbrev r13 (x : A13.den) (y : B13.den) : Prop := cron_Read_R x y
theorem cron_Read_ok : FxOk Tryz.prog gsT 13 A13 B13 r13 := fo (c := q13_cx) rfl rfl (Fns_assoc ⟨b13, b22, b23, cron_Macro_ok, field_Read_ok, b36, strings_TrimLeft_ok, strings_Cut_ok rfl, trivial⟩) (lp := q13_lp) (n := 60) (LpOk_tab ⟨q13_0_ok, trivial⟩) (enters Tryz.func13 (by kernel_rfl) rfl) (fun y => ⟨_, rfl⟩) fun x y h => Eq.mpr (q13_t _ y) (q13_r _ y h)
def e13 : Nat × Ent := (13, .fx A13 B13 r13)
noncomputable def c6 : Nat × Ent := (6, .body Tryz.f6)
theorem b6 {c : Cx} : EntOk Tryz.prog c 6 (.body Tryz.f6) := body_ent Tryz.func6 (by kernel_rfl) (by kernel_rfl)
abbrev A6 : RT := (.one (.agg (.cons (.int .u32) (.cons .str (.cons (.int .i64) (.cons (.int .i64) (.cons (.int .i64) (.one (.int .i64)))))))))
abbrev B6 : RT := (.tup (.cons (.agg (.cons (.int .u32) (.cons .bool (.cons (.int .u64) (.cons (.int .u64) (.cons (.int .u64) (.cons (.int .u64) (.cons (.int .u64) (.cons (.int .i64) (.cons (.int .i64) (.cons (.int .i64) (.one (.int .i64))))))))))))) (.one (.int .i64))))
noncomputable def q6_cx : Cx := ⟨tyT, [c6, e12, e13], gsT, eqT, false⟩
def job_Of_j0 (p0 : ByteArray) (p1 p2 p3 p4 p5 : Int) (y : (Int × Bool × Int × Int × Int × Int × Int × Int × Int × Int × Int) × Int) : Prop :=
  (br (ByteArray.toList p0 == ByteArray.toList (⟨#[]⟩ : ByteArray)) (((p1, (true, (0, (0, (0, (0, (0, (p2, (p3, (p4, p5)))))))))), 0) = y) (∃ y2 : (Int × Int × Int × Int × Int) × Int × Int, (cron_Read_R p0 y2) ∧ (br ((y2.2.2) != 0) (((0, (false, (0, (0, (0, (0, (0, (0, (0, (0, 0)))))))))), (y2.2.2)) = y) (∃ y3 : Int, (job_Check_R p1 false (y2.1.1) (y2.1.2.1) (y2.1.2.2.1) (y2.1.2.2.2.1) (y2.1.2.2.2.2) p2 p3 p4 p5 y3) ∧ (br (y3 != 0) (((0, (false, (0, (0, (0, (0, (0, (0, (0, (0, 0)))))))))), y3) = y) (((p1, (false, ((y2.1.1), ((y2.1.2.1), ((y2.1.2.2.1), ((y2.1.2.2.2.1), ((y2.1.2.2.2.2), (p2, (p3, (p4, p5)))))))))), 0) = y))))))
def job_Of_j0F (i : Ip) (p0 : ByteArray) (p1 p2 p3 p4 p5 : Int) (y : (Int × Bool × Int × Int × Int × Int × Int × Int × Int × Int × Int) × Int) : Prop :=
  (br (ByteArray.toList p0 == ByteArray.toList (⟨#[]⟩ : ByteArray)) (((p1, (true, (0, (0, (0, (0, (0, (p2, (p3, (p4, p5)))))))))), 0) = y) (∃ y2 : (Int × Int × Int × Int × Int) × Int × Int, (cron_Read_R p0 y2) ∧ (br ((y2.2.2) != 0) (((0, (false, (0, (0, (0, (0, (0, (0, (0, (0, 0)))))))))), (y2.2.2)) = y) (i.an 1 (∃ y3 : Int, (job_Check_R p1 false (y2.1.1) (y2.1.2.1) (y2.1.2.2.1) (y2.1.2.2.2.1) (y2.1.2.2.2.2) p2 p3 p4 p5 y3) ∧ (br (y3 != 0) (((0, (false, (0, (0, (0, (0, (0, (0, (0, (0, 0)))))))))), y3) = y) (((p1, (false, ((y2.1.1), ((y2.1.2.1), ((y2.1.2.2.1), ((y2.1.2.2.2.1), ((y2.1.2.2.2.2), (p2, (p3, (p4, p5)))))))))), 0) = y)))))))
theorem job_Of_j0_r (p0 : ByteArray) (p1 p2 p3 p4 p5 : Int) (y : (Int × Bool × Int × Int × Int × Int × Int × Int × Int × Int × Int) × Int) : MI (job_Of_j0 p0 p1 p2 p3 p4 p5 y) (job_Of_j0F ipT p0 p1 p2 p3 p4 p5 y) := by
  unfold job_Of_j0 job_Of_j0F
  repeat' (first | intro _ | with_reducible constructor)
def job_Of_F (i : Ip) (a0 : Int) (a1 : ByteArray) (a2 a3 a4 a5 : Int) (y : (Int × Bool × Int × Int × Int × Int × Int × Int × Int × Int × Int) × Int) : Prop :=
  (∃ y1 : Int, (job_Check_R a0 true 0 0 0 0 0 a2 a3 a4 a5 y1) ∧ (br (y1 != 0) (((0, (false, (0, (0, (0, (0, (0, (0, (0, (0, 0)))))))))), 200) = y) (br (!(ByteArray.toList a1 == ByteArray.toList (⟨#[]⟩ : ByteArray))) (br (a2 != 0) (((0, (false, (0, (0, (0, (0, (0, (0, (0, (0, 0)))))))))), 200) = y) (job_Of_j0F i a1 a0 a2 a3 a4 a5 y)) (job_Of_j0F i a1 a0 a2 a3 a4 a5 y))))
def job_Of_R (a0 : Int) (a1 : ByteArray) (a2 a3 a4 a5 : Int) (y : (Int × Bool × Int × Int × Int × Int × Int × Int × Int × Int × Int) × Int) : Prop :=
  (∃ y1 : Int, (job_Check_R a0 true 0 0 0 0 0 a2 a3 a4 a5 y1) ∧ (br (y1 != 0) (((0, (false, (0, (0, (0, (0, (0, (0, (0, (0, 0)))))))))), 200) = y) (br (!(ByteArray.toList a1 == ByteArray.toList (⟨#[]⟩ : ByteArray))) (br (a2 != 0) (((0, (false, (0, (0, (0, (0, (0, (0, (0, (0, 0)))))))))), 200) = y) (job_Of_j0 a1 a0 a2 a3 a4 a5 y)) (job_Of_j0 a1 a0 a2 a3 a4 a5 y))))
theorem q6_t (a0 : Int) (a1 : ByteArray) (a2 a3 a4 a5 : Int) (y : (Int × Bool × Int × Int × Int × Int × Int × Int × Int × Int × Int) × Int) : acall q6_cx okT lpT 60 (.fn 6 [] []) [(V.agg [(V.int .u32 a0), (V.str a1), (vi a2), (vi a3), (vi a4), (vi a5)])] [] (leafK B6 y) = job_Of_F ipT a0 a1 a2 a3 a4 a5 y := by kernel_rfl
theorem q6_r (a0 : Int) (a1 : ByteArray) (a2 a3 a4 a5 : Int) (y : (Int × Bool × Int × Int × Int × Int × Int × Int × Int × Int × Int) × Int) : job_Of_R a0 a1 a2 a3 a4 a5 y → job_Of_F ipT a0 a1 a2 a3 a4 a5 y := by
  unfold job_Of_R job_Of_F
  refine MI.run ?_
  repeat' (first | intro _ | exact job_Of_j0_r _ _ _ _ _ _ _ | with_reducible constructor)
abbrev r6 (x : A6.den) (y : B6.den) : Prop := job_Of_R (x.1) (x.2.1) (x.2.2.1) (x.2.2.2.1) (x.2.2.2.2.1) (x.2.2.2.2.2) y
theorem job_Of_ok : FxOk Tryz.prog gsT 6 A6 B6 r6 := fo (c := q6_cx) rfl rfl (Fns_assoc ⟨b6, job_Check_ok, cron_Read_ok, trivial⟩) (n := 60) (lp_ok) (enters Tryz.func6 (by kernel_rfl) rfl) (fun y => ⟨_, rfl⟩) fun x y h => Eq.mpr (q6_t _ _ _ _ _ _ y) (q6_r _ _ _ _ _ _ y h)
def e6 : Nat × Ent := (6, .fx A6 B6 r6)
noncomputable def c8 : Nat × Ent := (8, .body Tryz.f8)
theorem b8 {c : Cx} : EntOk Tryz.prog c 8 (.body Tryz.f8) := body_ent Tryz.func8 (by kernel_rfl) (by kernel_rfl)
noncomputable def c18 : Nat × Ent := (18, .body Tryz.f18)
theorem b18 {c : Cx} : EntOk Tryz.prog c 18 (.body Tryz.f18) := body_ent Tryz.func18 (by kernel_rfl) (by kernel_rfl)
noncomputable def c32 : Nat × Ent := (32, .body Tryz.f32)
theorem b32 {c : Cx} : EntOk Tryz.prog c 32 (.body Tryz.f32) := body_ent Tryz.func32 (by kernel_rfl) (by kernel_rfl)
noncomputable def c33 : Nat × Ent := (33, .body Tryz.f33)
theorem b33 {c : Cx} : EntOk Tryz.prog c 33 (.body Tryz.f33) := body_ent Tryz.func33 (by kernel_rfl) (by kernel_rfl)
noncomputable def c49 : Nat × Ent := (49, .body Tryz.f49)
theorem b49 {c : Cx} : EntOk Tryz.prog c 49 (.body Tryz.f49) := body_ent Tryz.func49 (by kernel_rfl) (by kernel_rfl)
noncomputable def c50 : Nat × Ent := (50, .body Tryz.f50)
theorem b50 {c : Cx} : EntOk Tryz.prog c 50 (.body Tryz.f50) := body_ent Tryz.func50 (by kernel_rfl) (by kernel_rfl)
noncomputable def c52 : Nat × Ent := (52, .body Tryz.f52)
theorem b52 {c : Cx} : EntOk Tryz.prog c 52 (.body Tryz.f52) := body_ent Tryz.func52 (by kernel_rfl) (by kernel_rfl)
abbrev A8 : RT := (.cons (.agg (.cons (.int .u32) (.cons .bool (.cons (.int .u64) (.cons (.int .u64) (.cons (.int .u64) (.cons (.int .u64) (.cons (.int .u64) (.cons (.int .i64) (.cons (.int .i64) (.cons (.int .i64) (.one (.int .i64))))))))))))) (.cons (.agg (.cons (.int .i64) (.one (.int .i64)))) (.one (.int .i64))))
abbrev B8 : RT := (.tup (.cons (.nw (.int .i64) 2) (.one (.int .i64))))
noncomputable def q8_cx : Cx := ⟨tyT, [c8, e12, c18, c32, c33, e35, c49, c50, c52], gsT, eqT, false⟩
noncomputable def q8_0_body : Code := subC [1, 0, 1, 1, 1, 1, 1, 1, 0, 0, 0] (bodyOf Tryz.f8)
abbrev job_Times_l0_Z : Type := Int × Int × Int
abbrev job_Times_l0_Y : Type := Unit
noncomputable def q8_0_k : LK := ⟨3, ⟨[(2, .w 2), (4, .ptr 1 0), (9, .ptr 2 0), (11, .nil), (12, .e (.z 0))], [.dead, .cells [.w 0, .w 1], .cells [.nilf, .nilf]], []⟩, [.int .i64, .int .i64, .int .i64], [], [], [], [⟨(.exit 0), ⟨[(11, .nil)], [.dead, .dead, .dead], []⟩, [], [], none⟩]⟩
def job_Times_l0 : Nat → job_Times_l0_Z → job_Times_l0_Y → Prop
  | 0, _, _ => False
  | k + 1, (z3x0, z3x1, z3x2), y4_ => (br (decide (0 < z3x2)) False (() = y4_))
def job_Times_l0_L (z : job_Times_l0_Z) (y : job_Times_l0_Y) : Prop := ∃ k, job_Times_l0 k z y
noncomputable def q8_0_lp : Lp := .auto none q8_0_body (loopK q8_0_k fun z y => ∃ k, job_Times_l0 k z y)
noncomputable def q8_1_body : Code := subC [1, 0, 1, 1, 1, 1, 1, 1, 0, 0, 0] (bodyOf Tryz.f8)
abbrev job_Times_l1_Z : Type := List Int × Int × Int × Int × Int × Int
abbrev job_Times_l1_Y : Type := List Int
noncomputable def q8_1_k : LK := ⟨8, ⟨[(2, .w 4), (4, .ptr 1 0), (9, .ptr 7 0), (11, .row 8 1 (.z 0) (.c 0)), (12, .w 5)], [.dead, .cells [.w 1, .w 2], .dead, .dead, .cells [.w 3], .dead, .cells [.fn 49 [] [.ptr 4 0]], .cells [.fn 50 [] [.ptr 6 0, .ptr 4 0], .fn 51 [] [.ptr 6 0, .ptr 4 0]], .row (.int .i64) (.z 0) 2 (.c 0)], []⟩, [.sl (.int .i64), .int .i64, .int .i64, .int .i64, .int .i64, .int .i64], [], [.nat], [], [⟨(.exit 0), ⟨[(11, .row 8 1 (.z 0) (.c 0))], [.dead, .dead, .dead, .dead, .dead, .dead, .dead, .dead, .row (.int .i64) (.z 0) 2 (.c 0)], []⟩, [.sl (.int .i64)], [.nat], none⟩]⟩
def job_Times_l1_F (i : Ip) (l : job_Times_l1_Z → job_Times_l1_Y → Prop) (z7x0 : List Int) (z7x1 z7x2 z7x3 z7x4 z7x5 : Int) (z7k0 : Nat) (y8_ : job_Times_l1_Y) : Prop :=
  (br (decide ((((List.length z7x0) : Nat) : Int) < z7x4)) (br (!(decide (z7x3 > z7x5))) (i.te [(V.row 8 1 (List.length z7x0) z7k0)] [] (z7x0 = y8_)) (br (decide (z7x3 > z7x2)) (i.te [(V.row 8 1 (List.length z7x0) z7k0)] [] (z7x0 = y8_)) (i.r2 (Nat.ble ((List.length (z7x0 ++ [z7x3])) * 9) 140737488355328) (((((true && true) && true) && (Nat.beq (List.length z7x0) (List.length z7x0))) && (Nat.beq z7k0 z7k0)) && (Nat.ble ((List.length (z7x0 ++ [z7x3])) * 9) 140737488355328)) (fun q => (band (band (band (band (band rfl rfl) rfl) (Nat.beq_refl _)) (Nat.beq_refl _)) q)) (i.cp (List.length (z7x0 ++ [z7x3])) fun c9 hc9 => (i.te [(V.row 8 1 (List.length (z7x0 ++ [z7x3])) c9)] [] (l ((z7x0 ++ [z7x3]), z7x1, z7x2, z7x3, z7x4, z7x3) y8_)))))) (i.te [(V.row 8 1 (List.length z7x0) z7k0)] [] (z7x0 = y8_)))
def job_Times_l1 : Nat → job_Times_l1_Z → job_Times_l1_Y → Prop
  | 0, _, _ => False
  | k + 1, (z7x0, z7x1, z7x2, z7x3, z7x4, z7x5), y8_ => (br (decide ((((List.length z7x0) : Nat) : Int) < z7x4)) (br (!(decide (z7x3 > z7x5))) (z7x0 = y8_) (br (decide (z7x3 > z7x2)) (z7x0 = y8_) (req (Nat.ble ((List.length (z7x0 ++ [z7x3])) * 9) 140737488355328) (job_Times_l1 k ((z7x0 ++ [z7x3]), z7x1, z7x2, z7x3, z7x4, z7x3) y8_)))) (z7x0 = y8_))
def job_Times_l1_L (z : job_Times_l1_Z) (y : job_Times_l1_Y) : Prop := ∃ k, job_Times_l1 k z y
noncomputable def q8_1_lp : Lp := .auto none q8_1_body (loopK q8_1_k fun z y => ∃ k, job_Times_l1 k z y)
noncomputable def q8_2_body : Code := subC [1, 0, 1, 1, 1, 1, 1, 1, 0, 0, 0] (bodyOf Tryz.f8)
abbrev job_Times_l2_Z : Type := List Int × Int × Int × Int × Int × Int × Int × Int × Int × Int
abbrev job_Times_l2_Y : Type := List Int
noncomputable def q8_2_k : LK := ⟨7, ⟨[(2, .w 8), (4, .ptr 1 0), (9, .ptr 6 0), (11, .row 7 1 (.z 0) (.c 0)), (12, .w 9)], [.dead, .cells [.w 1, .w 2], .dead, .dead, .cells [.w 3, .w 4, .w 5, .w 6, .w 7], .dead, .cells [.fn 52 [] [.ptr 4 0], .fn 53 [] [.ptr 4 0]], .row (.int .i64) (.z 0) 2 (.c 0)], []⟩, [.sl (.int .i64), .int .i64, .int .i64, .int .u64, .int .u64, .int .u64, .int .u64, .int .u64, .int .i64, .int .i64], [], [.nat], [], [⟨(.exit 0), ⟨[(11, .row 7 1 (.z 0) (.c 0))], [.dead, .dead, .dead, .dead, .dead, .dead, .dead, .row (.int .i64) (.z 0) 2 (.c 0)], []⟩, [.sl (.int .i64)], [.nat], none⟩]⟩
def job_Times_l2_F (i : Ip) (l : job_Times_l2_Z → job_Times_l2_Y → Prop) (z12x0 : List Int) (z12x1 z12x2 z12x3 z12x4 z12x5 z12x6 z12x7 z12x8 z12x9 : Int) (z12k0 : Nat) (y13_ : job_Times_l2_Y) : Prop :=
  (br (decide ((((List.length z12x0) : Nat) : Int) < z12x8)) (∃ y14 : Int × Bool, (next_Next_R z12x3 z12x4 z12x5 z12x6 z12x7 z12x9 y14) ∧ (br (!(y14.2)) (i.te [(V.row 7 1 (List.length z12x0) z12k0)] [] (z12x0 = y13_)) (br (decide ((y14.1) > z12x2)) (i.te [(V.row 7 1 (List.length z12x0) z12k0)] [] (z12x0 = y13_)) (i.r2 (Nat.ble ((List.length (z12x0 ++ [(y14.1)])) * 9) 140737488355328) (((((true && true) && true) && (Nat.beq (List.length z12x0) (List.length z12x0))) && (Nat.beq z12k0 z12k0)) && (Nat.ble ((List.length (z12x0 ++ [(y14.1)])) * 9) 140737488355328)) (fun q => (band (band (band (band (band rfl rfl) rfl) (Nat.beq_refl _)) (Nat.beq_refl _)) q)) (i.cp (List.length (z12x0 ++ [(y14.1)])) fun c15 hc15 => (i.te [(V.row 7 1 (List.length (z12x0 ++ [(y14.1)])) c15)] [] (l ((z12x0 ++ [(y14.1)]), z12x1, z12x2, z12x3, z12x4, z12x5, z12x6, z12x7, z12x8, (y14.1)) y13_))))))) (i.te [(V.row 7 1 (List.length z12x0) z12k0)] [] (z12x0 = y13_)))
def job_Times_l2 : Nat → job_Times_l2_Z → job_Times_l2_Y → Prop
  | 0, _, _ => False
  | k + 1, (z12x0, z12x1, z12x2, z12x3, z12x4, z12x5, z12x6, z12x7, z12x8, z12x9), y13_ => (br (decide ((((List.length z12x0) : Nat) : Int) < z12x8)) (∃ y14 : Int × Bool, (next_Next_R z12x3 z12x4 z12x5 z12x6 z12x7 z12x9 y14) ∧ (br (!(y14.2)) (z12x0 = y13_) (br (decide ((y14.1) > z12x2)) (z12x0 = y13_) (req (Nat.ble ((List.length (z12x0 ++ [(y14.1)])) * 9) 140737488355328) (job_Times_l2 k ((z12x0 ++ [(y14.1)]), z12x1, z12x2, z12x3, z12x4, z12x5, z12x6, z12x7, z12x8, (y14.1)) y13_))))) (z12x0 = y13_))
def job_Times_l2_L (z : job_Times_l2_Z) (y : job_Times_l2_Y) : Prop := ∃ k, job_Times_l2 k z y
noncomputable def q8_2_lp : Lp := .auto none q8_2_body (loopK q8_2_k fun z y => ∃ k, job_Times_l2 k z y)
noncomputable def q8_lp : Nat → FuncId → Nat → Nat → Lp := lpTab [(8, 9, 3, 1, q8_0_lp), (8, 9, 8, 2, q8_1_lp), (8, 9, 7, 2, q8_2_lp)]
theorem q8_0_t (n k : Nat) (z3x0 z3x1 z3x2 : Int) (y4_ : job_Times_l0_Y) : rnd q8_cx okT q8_lp (n + 1) 8 none q8_0_body q8_0_k (job_Times_l0 k) (z3x0, z3x1, z3x2) () () y4_ = job_Times_l0 (k + 1) (z3x0, z3x1, z3x2) y4_ := by kernel_rfl
theorem q8_0_ok (n : Nat) : Owed q8_cx okT 8 q8_lp (n + 1) q8_0_lp := owed_rnd (lk := q8_0_k) (l := job_Times_l0) (fun z y h => h) fun k z q c y h => Eq.mpr (q8_0_t n k z.1 z.2.1 z.2.2 y) h
theorem q8_1_t (n k : Nat) (z7x0 : List Int) (z7x1 z7x2 z7x3 z7x4 z7x5 : Int) (z7k0 : Nat) (y8_ : job_Times_l1_Y) : rnd q8_cx okT q8_lp (n + 2) 8 none q8_1_body q8_1_k (job_Times_l1 k) (z7x0, z7x1, z7x2, z7x3, z7x4, z7x5) () z7k0 y8_ = job_Times_l1_F ipT (fun z y => job_Times_l1 k z y) z7x0 z7x1 z7x2 z7x3 z7x4 z7x5 z7k0 y8_ := by kernel_rfl
theorem q8_1_r (k : Nat) (z7x0 : List Int) (z7x1 z7x2 z7x3 z7x4 z7x5 : Int) (z7k0 : Nat) (y8_ : job_Times_l1_Y) : job_Times_l1 (k + 1) (z7x0, z7x1, z7x2, z7x3, z7x4, z7x5) y8_ → job_Times_l1_F ipT (fun z y => job_Times_l1 k z y) z7x0 z7x1 z7x2 z7x3 z7x4 z7x5 z7k0 y8_ := by
  unfold job_Times_l1_F
  intro h; simp only [job_Times_l1] at h; revert h
  refine MI.run ?_
  repeat' (first | intro _ | with_reducible constructor)
theorem q8_1_ok (n : Nat) : Owed q8_cx okT 8 q8_lp (n + 2) q8_1_lp := owed_rnd (lk := q8_1_k) (l := job_Times_l1) (fun z y h => h) fun k z q c y h => Eq.mpr (q8_1_t n k z.1 z.2.1 z.2.2.1 z.2.2.2.1 z.2.2.2.2.1 z.2.2.2.2.2 c y) (q8_1_r k z.1 z.2.1 z.2.2.1 z.2.2.2.1 z.2.2.2.2.1 z.2.2.2.2.2 c y h)
theorem q8_2_t (n k : Nat) (z12x0 : List Int) (z12x1 z12x2 z12x3 z12x4 z12x5 z12x6 z12x7 z12x8 z12x9 : Int) (z12k0 : Nat) (y13_ : job_Times_l2_Y) : rnd q8_cx okT q8_lp (n + 2) 8 none q8_2_body q8_2_k (job_Times_l2 k) (z12x0, z12x1, z12x2, z12x3, z12x4, z12x5, z12x6, z12x7, z12x8, z12x9) () z12k0 y13_ = job_Times_l2_F ipT (fun z y => job_Times_l2 k z y) z12x0 z12x1 z12x2 z12x3 z12x4 z12x5 z12x6 z12x7 z12x8 z12x9 z12k0 y13_ := by kernel_rfl
theorem q8_2_r (k : Nat) (z12x0 : List Int) (z12x1 z12x2 z12x3 z12x4 z12x5 z12x6 z12x7 z12x8 z12x9 : Int) (z12k0 : Nat) (y13_ : job_Times_l2_Y) : job_Times_l2 (k + 1) (z12x0, z12x1, z12x2, z12x3, z12x4, z12x5, z12x6, z12x7, z12x8, z12x9) y13_ → job_Times_l2_F ipT (fun z y => job_Times_l2 k z y) z12x0 z12x1 z12x2 z12x3 z12x4 z12x5 z12x6 z12x7 z12x8 z12x9 z12k0 y13_ := by
  unfold job_Times_l2_F
  intro h; simp only [job_Times_l2] at h; revert h
  refine MI.run ?_
  repeat' (first | intro _ | with_reducible constructor)
theorem q8_2_ok (n : Nat) : Owed q8_cx okT 8 q8_lp (n + 2) q8_2_lp := owed_rnd (lk := q8_2_k) (l := job_Times_l2) (fun z y h => h) fun k z q c y h => Eq.mpr (q8_2_t n k z.1 z.2.1 z.2.2.1 z.2.2.2.1 z.2.2.2.2.1 z.2.2.2.2.2.1 z.2.2.2.2.2.2.1 z.2.2.2.2.2.2.2.1 z.2.2.2.2.2.2.2.2.1 z.2.2.2.2.2.2.2.2.2 c y) (q8_2_r k z.1 z.2.1 z.2.2.1 z.2.2.2.1 z.2.2.2.2.1 z.2.2.2.2.2.1 z.2.2.2.2.2.2.1 z.2.2.2.2.2.2.2.1 z.2.2.2.2.2.2.2.2.1 z.2.2.2.2.2.2.2.2.2 c y h)
def job_Times_F (i : Ip) (a0 : Int) (a1 : Bool) (a2 a3 a4 a5 a6 a7 a8 a9 a10 a11 a12 a13 : Int) (y : List Int × Int) : Prop :=
  (∃ y1 : Int, (job_Check_R a0 a1 a2 a3 a4 a5 a6 a7 a8 a9 a10 y1) ∧ (br (y1 != 0) (([], y1) = y) (br (decide (a13 < 0)) (([], 2) = y) (br (decide (a13 > 64)) (([], 2) = y) (∃ y2 : Int, (job_Check_R a0 a1 a2 a3 a4 a5 a6 a7 a8 a9 a10 y2) ∧ (br (y2 != 0) (i.lo none q8_0_body (i.te [(vi a11)] [] (∃ y6 : job_Times_l0_Y, job_Times_l0_L (a11, a12, a13) y6 ∧ (([], 0) = y)))) (br a1 (i.lo none q8_1_body (i.te [(V.row 8 1 0 0)] [] (∃ y11 : job_Times_l1_Y, job_Times_l1_L ([], a11, a12, a7, a13, a11) y11 ∧ (i.cq [.nat] fun y11c => (i.tr ((true && true) && (((Nat.beq (List.length y11) (List.length y11)) && (Nat.beq y11c y11c)) && true)) (band (band rfl rfl) (band (band (Nat.beq_refl _) (Nat.beq_refl _)) rfl)) ((y11, 0) = y)))))) (i.lo none q8_2_body (i.te [(V.row 7 1 0 0)] [] (∃ y17 : job_Times_l2_Y, job_Times_l2_L ([], a11, a12, a2, a3, a4, a5, a6, a13, a11) y17 ∧ (i.cq [.nat] fun y17c => (i.tr ((true && true) && (((Nat.beq (List.length y17) (List.length y17)) && (Nat.beq y17c y17c)) && true)) (band (band rfl rfl) (band (band (Nat.beq_refl _) (Nat.beq_refl _)) rfl)) ((y17, 0) = y)))))))))))))
def job_Times_R (a0 : Int) (a1 : Bool) (a2 a3 a4 a5 a6 a7 a8 a9 a10 a11 a12 a13 : Int) (y : List Int × Int) : Prop :=
  (∃ y1 : Int, (job_Check_R a0 a1 a2 a3 a4 a5 a6 a7 a8 a9 a10 y1) ∧ (br (y1 != 0) (([], y1) = y) (br (decide (a13 < 0)) (([], 2) = y) (br (decide (a13 > 64)) (([], 2) = y) (∃ y2 : Int, (job_Check_R a0 a1 a2 a3 a4 a5 a6 a7 a8 a9 a10 y2) ∧ (br (y2 != 0) (∃ y6 : job_Times_l0_Y, job_Times_l0_L (a11, a12, a13) y6 ∧ (([], 0) = y)) (br a1 (∃ y11 : job_Times_l1_Y, job_Times_l1_L ([], a11, a12, a7, a13, a11) y11 ∧ ((y11, 0) = y)) (∃ y17 : job_Times_l2_Y, job_Times_l2_L ([], a11, a12, a2, a3, a4, a5, a6, a13, a11) y17 ∧ ((y17, 0) = y)))))))))
theorem q8_t (a0 : Int) (a1 : Bool) (a2 a3 a4 a5 a6 a7 a8 a9 a10 a11 a12 a13 : Int) (y : List Int × Int) : acall q8_cx okT q8_lp 60 (.fn 8 [] []) [(V.agg [(V.int .u32 a0), (vb a1), (vu a2), (vu a3), (vu a4), (vu a5), (vu a6), (vi a7), (vi a8), (vi a9), (vi a10)]), (V.agg [(vi a11), (vi a12)]), (vi a13)] [] (leafK B8 y) = job_Times_F ipT a0 a1 a2 a3 a4 a5 a6 a7 a8 a9 a10 a11 a12 a13 y := by kernel_rfl
theorem q8_r (a0 : Int) (a1 : Bool) (a2 a3 a4 a5 a6 a7 a8 a9 a10 a11 a12 a13 : Int) (y : List Int × Int) : job_Times_R a0 a1 a2 a3 a4 a5 a6 a7 a8 a9 a10 a11 a12 a13 y → job_Times_F ipT a0 a1 a2 a3 a4 a5 a6 a7 a8 a9 a10 a11 a12 a13 y := by
  unfold job_Times_R job_Times_F
  refine MI.run ?_
  repeat' (first | intro _ | with_reducible constructor)
abbrev r8 (x : A8.den) (y : B8.den) : Prop := job_Times_R (x.1.1) (x.1.2.1) (x.1.2.2.1) (x.1.2.2.2.1) (x.1.2.2.2.2.1) (x.1.2.2.2.2.2.1) (x.1.2.2.2.2.2.2.1) (x.1.2.2.2.2.2.2.2.1) (x.1.2.2.2.2.2.2.2.2.1) (x.1.2.2.2.2.2.2.2.2.2.1) (x.1.2.2.2.2.2.2.2.2.2.2) (x.2.1.1) (x.2.1.2) (x.2.2) y
theorem job_Times_ok : FxOk Tryz.prog gsT 8 A8 B8 r8 := fo (c := q8_cx) rfl rfl (Fns_assoc ⟨b8, job_Check_ok, b18, b32, b33, next_Next_ok, b49, b50, b52, trivial⟩) (lp := q8_lp) (n := 60) (LpOk_tab ⟨q8_0_ok, q8_1_ok, q8_2_ok, trivial⟩) (enters Tryz.func8 (by kernel_rfl) rfl) (fun y => ⟨_, rfl⟩) fun x y h => Eq.mpr (q8_t _ _ _ _ _ _ _ _ _ _ _ _ _ _ y) (q8_r _ _ _ _ _ _ _ _ _ _ _ _ _ _ y h)
def e8 : Nat × Ent := (8, .fx A8 B8 r8)
noncomputable def c9 : Nat × Ent := (9, .body Tryz.f9)
theorem b9 {c : Cx} : EntOk Tryz.prog c 9 (.body Tryz.f9) := body_ent Tryz.func9 (by kernel_rfl) (by kernel_rfl)
abbrev A9 : RT := (.cons (.agg (.cons (.int .u32) (.cons .bool (.cons (.int .u64) (.cons (.int .u64) (.cons (.int .u64) (.cons (.int .u64) (.cons (.int .u64) (.cons (.int .i64) (.cons (.int .i64) (.cons (.int .i64) (.one (.int .i64))))))))))))) (.one (.int .i64)))
abbrev B9 : RT := (.tup (.cons (.int .i64) (.one .bool)))
noncomputable def q9_cx : Cx := ⟨tyT, [c9, e12, c18, c32, c33, e35, c49, c50, c52], gsT, eqT, false⟩
def job_First_R (a0 : Int) (a1 : Bool) (a2 a3 a4 a5 a6 a7 a8 a9 a10 a11 : Int) (y : Int × Bool) : Prop :=
  (∃ y1 : Int, (job_Check_R a0 a1 a2 a3 a4 a5 a6 a7 a8 a9 a10 y1) ∧ (br (y1 != 0) ((0, false) = y) (br a1 (br (!(decide (a7 > a11))) ((0, false) = y) ((a7, true) = y)) (∃ y2 : Int × Bool, (next_Next_R a2 a3 a4 a5 a6 a11 y2) ∧ (y2 = y)))))
theorem q9_t (a0 : Int) (a1 : Bool) (a2 a3 a4 a5 a6 a7 a8 a9 a10 a11 : Int) (y : Int × Bool) : acall q9_cx okT lpT 60 (.fn 9 [] []) [(V.agg [(V.int .u32 a0), (vb a1), (vu a2), (vu a3), (vu a4), (vu a5), (vu a6), (vi a7), (vi a8), (vi a9), (vi a10)]), (vi a11)] [] (leafK B9 y) = job_First_R a0 a1 a2 a3 a4 a5 a6 a7 a8 a9 a10 a11 y := by kernel_rfl
abbrev r9 (x : A9.den) (y : B9.den) : Prop := job_First_R (x.1.1) (x.1.2.1) (x.1.2.2.1) (x.1.2.2.2.1) (x.1.2.2.2.2.1) (x.1.2.2.2.2.2.1) (x.1.2.2.2.2.2.2.1) (x.1.2.2.2.2.2.2.2.1) (x.1.2.2.2.2.2.2.2.2.1) (x.1.2.2.2.2.2.2.2.2.2.1) (x.1.2.2.2.2.2.2.2.2.2.2) (x.2) y
theorem job_First_ok : FxOk Tryz.prog gsT 9 A9 B9 r9 := fo (c := q9_cx) rfl rfl (Fns_assoc ⟨b9, job_Check_ok, b18, b32, b33, next_Next_ok, b49, b50, b52, trivial⟩) (n := 60) (lp_ok) (enters Tryz.func9 (by kernel_rfl) rfl) (fun y => ⟨_, rfl⟩) fun x y h => Eq.mpr (q9_t _ _ _ _ _ _ _ _ _ _ _ _ y) h
def e9 : Nat × Ent := (9, .fx A9 B9 r9)
noncomputable def c10 : Nat × Ent := (10, .body Tryz.f10)
theorem b10 {c : Cx} : EntOk Tryz.prog c 10 (.body Tryz.f10) := body_ent Tryz.func10 (by kernel_rfl) (by kernel_rfl)
abbrev A10 : RT := (.cons (.sl (.int .i64)) (.one (.sl (.int .i64))))
abbrev B10 : RT := .bool
noncomputable def q10_cx : Cx := ⟨tyT, [c10], gsT, eqT, false⟩
noncomputable def q10_0_body : Code := subC [1, 1, 0, 1, 0, 0] (bodyOf Tryz.f10)
abbrev slices_Equal__int64_int64_l0_Z : Type := List Int × List Int × Int × Int
abbrev slices_Equal__int64_int64_l0_Y : Type := (Unit) ⊕ (Unit)
noncomputable def q10_0_k : LK := ⟨0, ⟨[(0, .sl (.int .i64) 0), (1, .sl (.int .i64) 1), (12, .w 2), (13, .w 3)], [], []⟩, [.sl (.int .i64), .sl (.int .i64), .int .i64, .int .i64], [], [], [], [⟨.ret, ⟨[(4, .lb false)], [], []⟩, [], [], none⟩, ⟨(.exit 0), ⟨[], [], []⟩, [], [], none⟩]⟩
def slices_Equal__int64_int64_l0_F (i : Ip) (l : slices_Equal__int64_int64_l0_Z → slices_Equal__int64_int64_l0_Y → Prop) (z1x0 z1x1 : List Int) (z1x2 z1x3 : Int) (y2_ : slices_Equal__int64_int64_l0_Y) : Prop :=
  (br (decide (z1x3 < z1x2)) (i.rq ((decide (0 ≤ z1x3)) && (decide (z1x3 < (((List.length z1x0) : Nat) : Int)))) (i.rq ((decide (0 ≤ z1x3)) && (decide (z1x3 < (((List.length z1x1) : Nat) : Int)))) (br ((List.getD z1x0 (Int.toNat z1x3) 0) != (List.getD z1x1 (Int.toNat z1x3) 0)) ((Sum.inl ()) = y2_) (l (z1x0, z1x1, z1x2, (IntKind.wrap .i64 (z1x3 + 1))) y2_)))) ((Sum.inr ()) = y2_))
def slices_Equal__int64_int64_l0 : Nat → slices_Equal__int64_int64_l0_Z → slices_Equal__int64_int64_l0_Y → Prop
  | 0, _, _ => False
  | k + 1, (z1x0, z1x1, z1x2, z1x3), y2_ => (br (decide (z1x3 < z1x2)) (req ((decide (0 ≤ z1x3)) && (decide (z1x3 < (((List.length z1x0) : Nat) : Int)))) (req ((decide (0 ≤ z1x3)) && (decide (z1x3 < (((List.length z1x1) : Nat) : Int)))) (br ((List.getD z1x0 (Int.toNat z1x3) 0) != (List.getD z1x1 (Int.toNat z1x3) 0)) ((Sum.inl ()) = y2_) (slices_Equal__int64_int64_l0 k (z1x0, z1x1, z1x2, (IntKind.wrap .i64 (z1x3 + 1))) y2_)))) ((Sum.inr ()) = y2_))
def slices_Equal__int64_int64_l0_L (z : slices_Equal__int64_int64_l0_Z) (y : slices_Equal__int64_int64_l0_Y) : Prop := ∃ k, slices_Equal__int64_int64_l0 k z y
noncomputable def q10_0_lp : Lp := .auto none q10_0_body (loopK q10_0_k fun z y => ∃ k, slices_Equal__int64_int64_l0 k z y)
noncomputable def q10_lp : Nat → FuncId → Nat → Nat → Lp := lpTab [(10, 4, 0, 0, q10_0_lp)]
theorem q10_0_t (n k : Nat) (z1x0 z1x1 : List Int) (z1x2 z1x3 : Int) (y2_ : slices_Equal__int64_int64_l0_Y) : rnd q10_cx okT q10_lp (n + 0) 10 none q10_0_body q10_0_k (slices_Equal__int64_int64_l0 k) (z1x0, z1x1, z1x2, z1x3) () () y2_ = slices_Equal__int64_int64_l0_F ipT (fun z y => slices_Equal__int64_int64_l0 k z y) z1x0 z1x1 z1x2 z1x3 y2_ := by kernel_rfl
theorem q10_0_r (k : Nat) (z1x0 z1x1 : List Int) (z1x2 z1x3 : Int) (y2_ : slices_Equal__int64_int64_l0_Y) : slices_Equal__int64_int64_l0 (k + 1) (z1x0, z1x1, z1x2, z1x3) y2_ → slices_Equal__int64_int64_l0_F ipT (fun z y => slices_Equal__int64_int64_l0 k z y) z1x0 z1x1 z1x2 z1x3 y2_ := by
  unfold slices_Equal__int64_int64_l0_F
  intro h; simp only [slices_Equal__int64_int64_l0] at h; revert h
  refine MI.run ?_
  repeat' (first | intro _ | with_reducible constructor)
theorem q10_0_ok (n : Nat) : Owed q10_cx okT 10 q10_lp (n + 0) q10_0_lp := owed_rnd (lk := q10_0_k) (l := slices_Equal__int64_int64_l0) (fun z y h => h) fun k z q c y h => Eq.mpr (q10_0_t n k z.1 z.2.1 z.2.2.1 z.2.2.2 y) (q10_0_r k z.1 z.2.1 z.2.2.1 z.2.2.2 y h)
def slices_Equal__int64_int64_F (i : Ip) (a0 a1 : List Int) (y : Bool) : Prop :=
  (br ((((List.length a0) : Nat) : Int) != (((List.length a1) : Nat) : Int)) (false = y) (i.lo none q10_0_body (∃ y4 : slices_Equal__int64_int64_l0_Y, slices_Equal__int64_int64_l0_L (a0, a1, (((List.length a0) : Nat) : Int), 0) y4 ∧ sume (fun y4 => (false = y)) (fun y4 => (true = y)) y4)))
def slices_Equal__int64_int64_R (a0 a1 : List Int) (y : Bool) : Prop :=
  (br ((((List.length a0) : Nat) : Int) != (((List.length a1) : Nat) : Int)) (false = y) (∃ y4 : slices_Equal__int64_int64_l0_Y, slices_Equal__int64_int64_l0_L (a0, a1, (((List.length a0) : Nat) : Int), 0) y4 ∧ sume (fun y4 => (false = y)) (fun y4 => (true = y)) y4))
theorem q10_t (a0 a1 : List Int) (y : Bool) : acall q10_cx okT q10_lp 60 (.fn 10 [] []) [(V.sl (.int .i64) a0 none), (V.sl (.int .i64) a1 none)] [] (leafK B10 y) = slices_Equal__int64_int64_F ipT a0 a1 y := by kernel_rfl
theorem q10_r (a0 a1 : List Int) (y : Bool) : slices_Equal__int64_int64_R a0 a1 y → slices_Equal__int64_int64_F ipT a0 a1 y := by
  unfold slices_Equal__int64_int64_R slices_Equal__int64_int64_F
  refine MI.run ?_
  repeat' (first | intro _ | with_reducible constructor)
abbrev r10 (x : A10.den) (y : B10.den) : Prop := slices_Equal__int64_int64_R (x.1) (x.2) y
theorem slices_Equal__int64_int64_ok : FxOk Tryz.prog gsT 10 A10 B10 r10 := fo (c := q10_cx) rfl rfl (Fns_assoc ⟨b10, trivial⟩) (lp := q10_lp) (n := 60) (LpOk_tab ⟨q10_0_ok, trivial⟩) (enters Tryz.func10 (by kernel_rfl) rfl) (fun y => ⟨_, rfl⟩) fun x y h => Eq.mpr (q10_t _ _ y) (q10_r _ _ y h)
def e10 : Nat × Ent := (10, .fx A10 B10 r10)
noncomputable def c11 : Nat × Ent := (11, .body Tryz.f11)
theorem b11 {c : Cx} : EntOk Tryz.prog c 11 (.body Tryz.f11) := body_ent Tryz.func11 (by kernel_rfl) (by kernel_rfl)
abbrev A11 : RT := (.cons (.agg (.cons (.int .u32) (.cons .bool (.cons (.int .u64) (.cons (.int .u64) (.cons (.int .u64) (.cons (.int .u64) (.cons (.int .u64) (.cons (.int .i64) (.cons (.int .i64) (.cons (.int .i64) (.one (.int .i64))))))))))))) (.one (.agg (.cons (.int .i64) (.one (.int .i64))))))
abbrev B11 : RT := .bool
noncomputable def q11_cx : Cx := ⟨tyT, [e8, c11], gsT, eqT, false⟩
def job_Idle_F (i : Ip) (a0 : Int) (a1 : Bool) (a2 a3 a4 a5 a6 a7 a8 a9 a10 a11 a12 : Int) (y : Bool) : Prop :=
  (∃ y1 : List Int × Int, (job_Times_R a0 a1 a2 a3 a4 a5 a6 a7 a8 a9 a10 a11 a12 1 y1) ∧ (i.cp (List.length (y1.1)) fun c2 hc2 => (br ((y1.2) == 0) (((((List.length (y1.1)) : Nat) : Int) == 0) = y) (false = y))))
def job_Idle_R (a0 : Int) (a1 : Bool) (a2 a3 a4 a5 a6 a7 a8 a9 a10 a11 a12 : Int) (y : Bool) : Prop :=
  (∃ y1 : List Int × Int, (job_Times_R a0 a1 a2 a3 a4 a5 a6 a7 a8 a9 a10 a11 a12 1 y1) ∧ (br ((y1.2) == 0) (((((List.length (y1.1)) : Nat) : Int) == 0) = y) (false = y)))
theorem q11_t (a0 : Int) (a1 : Bool) (a2 a3 a4 a5 a6 a7 a8 a9 a10 a11 a12 : Int) (y : Bool) : acall q11_cx okT lpT 60 (.fn 11 [] []) [(V.agg [(V.int .u32 a0), (vb a1), (vu a2), (vu a3), (vu a4), (vu a5), (vu a6), (vi a7), (vi a8), (vi a9), (vi a10)]), (V.agg [(vi a11), (vi a12)])] [] (leafK B11 y) = job_Idle_F ipT a0 a1 a2 a3 a4 a5 a6 a7 a8 a9 a10 a11 a12 y := by kernel_rfl
theorem q11_r (a0 : Int) (a1 : Bool) (a2 a3 a4 a5 a6 a7 a8 a9 a10 a11 a12 : Int) (y : Bool) : job_Idle_R a0 a1 a2 a3 a4 a5 a6 a7 a8 a9 a10 a11 a12 y → job_Idle_F ipT a0 a1 a2 a3 a4 a5 a6 a7 a8 a9 a10 a11 a12 y := by
  unfold job_Idle_R job_Idle_F
  refine MI.run ?_
  repeat' (first | intro _ | with_reducible constructor)
abbrev r11 (x : A11.den) (y : B11.den) : Prop := job_Idle_R (x.1.1) (x.1.2.1) (x.1.2.2.1) (x.1.2.2.2.1) (x.1.2.2.2.2.1) (x.1.2.2.2.2.2.1) (x.1.2.2.2.2.2.2.1) (x.1.2.2.2.2.2.2.2.1) (x.1.2.2.2.2.2.2.2.2.1) (x.1.2.2.2.2.2.2.2.2.2.1) (x.1.2.2.2.2.2.2.2.2.2.2) (x.2.1) (x.2.2) y
theorem job_Idle_ok : FxOk Tryz.prog gsT 11 A11 B11 r11 := fo (c := q11_cx) rfl rfl (Fns_assoc ⟨job_Times_ok, b11, trivial⟩) (n := 60) (lp_ok) (enters Tryz.func11 (by kernel_rfl) rfl) (fun y => ⟨_, rfl⟩) fun x y h => Eq.mpr (q11_t _ _ _ _ _ _ _ _ _ _ _ _ _ y) (q11_r _ _ _ _ _ _ _ _ _ _ _ _ _ y h)
def e11 : Nat × Ent := (11, .fx A11 B11 r11)
noncomputable def c4 : Nat × Ent := (4, .body Tryz.f4)
theorem b4 {c : Cx} : EntOk Tryz.prog c 4 (.body Tryz.f4) := body_ent Tryz.func4 (by kernel_rfl) (by kernel_rfl)
abbrev A4 : RT := (.one .none)
abbrev B4 : RT := .bool
noncomputable def q4_cx : Cx := ⟨tyT, [c4, e6, e8, e9, e10, e11], gsT, eqT, false⟩
def curfewlaw10_wakes_F (i : Ip) (y : Bool) : Prop :=
  (∃ y1 : (Int × Bool × Int × Int × Int × Int × Int × Int × Int × Int × Int) × Int, (job_Of_R 7 (⟨#[64, 104, 111, 117, 114, 108, 121]⟩ : ByteArray) 0 0 1 3 y1) ∧ (∃ y2 : (Int × Bool × Int × Int × Int × Int × Int × Int × Int × Int × Int) × Int, (job_Of_R 7 (⟨#[]⟩ : ByteArray) 90 0 0 0 y2) ∧ (∃ y3 : List Int × Int, (job_Times_R (y1.1.1) (y1.1.2.1) (y1.1.2.2.1) (y1.1.2.2.2.1) (y1.1.2.2.2.2.1) (y1.1.2.2.2.2.2.1) (y1.1.2.2.2.2.2.2.1) (y1.1.2.2.2.2.2.2.2.1) (y1.1.2.2.2.2.2.2.2.2.1) (y1.1.2.2.2.2.2.2.2.2.2.1) (y1.1.2.2.2.2.2.2.2.2.2.2) 0 7200 9 y3) ∧ (i.cp (List.length (y3.1)) fun c4 hc4 => (∃ y5 : Int × Bool, (job_First_R (y2.1.1) (y2.1.2.1) (y2.1.2.2.1) (y2.1.2.2.2.1) (y2.1.2.2.2.2.1) (y2.1.2.2.2.2.2.1) (y2.1.2.2.2.2.2.2.1) (y2.1.2.2.2.2.2.2.2.1) (y2.1.2.2.2.2.2.2.2.2.1) (y2.1.2.2.2.2.2.2.2.2.2.1) (y2.1.2.2.2.2.2.2.2.2.2.2) 89 y5) ∧ (∃ y6 : (Int × Bool × Int × Int × Int × Int × Int × Int × Int × Int × Int) × Int, (job_Of_R 7 (⟨#[48, 32, 48, 32, 51, 49, 32, 50, 32, 42]⟩ : ByteArray) 0 0 0 0 y6) ∧ (br ((y1.2) == 0) (br ((y2.2) == 0) (br ((y3.2) == 0) (br ((y6.2) == 201) (br (y5.2) (br ((y5.1) == 90) (br (!(y1.1.2.1)) (br (y2.1.2.1) (i.tr ((Nat.beq (List.length (y3.1)) (List.length (y3.1))) && true) (band (Nat.beq_refl _) rfl) (∃ y7 : Bool, (slices_Equal__int64_int64_R (y3.1) [3600, 7200] y7) ∧ (br y7 (∃ y8 : Bool, (job_Idle_R (y1.1.1) (y1.1.2.1) (y1.1.2.2.1) (y1.1.2.2.2.1) (y1.1.2.2.2.2.1) (y1.1.2.2.2.2.2.1) (y1.1.2.2.2.2.2.2.1) (y1.1.2.2.2.2.2.2.2.1) (y1.1.2.2.2.2.2.2.2.2.1) (y1.1.2.2.2.2.2.2.2.2.2.1) (y1.1.2.2.2.2.2.2.2.2.2.2) 0 3599 y8) ∧ (y8 = y)) (false = y)))) (false = y)) (false = y)) (false = y)) (false = y)) (false = y)) (false = y)) (false = y)) (false = y))))))))
def curfewlaw10_wakes_R (y : Bool) : Prop :=
  (∃ y1 : (Int × Bool × Int × Int × Int × Int × Int × Int × Int × Int × Int) × Int, (job_Of_R 7 (⟨#[64, 104, 111, 117, 114, 108, 121]⟩ : ByteArray) 0 0 1 3 y1) ∧ (∃ y2 : (Int × Bool × Int × Int × Int × Int × Int × Int × Int × Int × Int) × Int, (job_Of_R 7 (⟨#[]⟩ : ByteArray) 90 0 0 0 y2) ∧ (∃ y3 : List Int × Int, (job_Times_R (y1.1.1) (y1.1.2.1) (y1.1.2.2.1) (y1.1.2.2.2.1) (y1.1.2.2.2.2.1) (y1.1.2.2.2.2.2.1) (y1.1.2.2.2.2.2.2.1) (y1.1.2.2.2.2.2.2.2.1) (y1.1.2.2.2.2.2.2.2.2.1) (y1.1.2.2.2.2.2.2.2.2.2.1) (y1.1.2.2.2.2.2.2.2.2.2.2) 0 7200 9 y3) ∧ (∃ y5 : Int × Bool, (job_First_R (y2.1.1) (y2.1.2.1) (y2.1.2.2.1) (y2.1.2.2.2.1) (y2.1.2.2.2.2.1) (y2.1.2.2.2.2.2.1) (y2.1.2.2.2.2.2.2.1) (y2.1.2.2.2.2.2.2.2.1) (y2.1.2.2.2.2.2.2.2.2.1) (y2.1.2.2.2.2.2.2.2.2.2.1) (y2.1.2.2.2.2.2.2.2.2.2.2) 89 y5) ∧ (∃ y6 : (Int × Bool × Int × Int × Int × Int × Int × Int × Int × Int × Int) × Int, (job_Of_R 7 (⟨#[48, 32, 48, 32, 51, 49, 32, 50, 32, 42]⟩ : ByteArray) 0 0 0 0 y6) ∧ (br ((y1.2) == 0) (br ((y2.2) == 0) (br ((y3.2) == 0) (br ((y6.2) == 201) (br (y5.2) (br ((y5.1) == 90) (br (!(y1.1.2.1)) (br (y2.1.2.1) (∃ y7 : Bool, (slices_Equal__int64_int64_R (y3.1) [3600, 7200] y7) ∧ (br y7 (∃ y8 : Bool, (job_Idle_R (y1.1.1) (y1.1.2.1) (y1.1.2.2.1) (y1.1.2.2.2.1) (y1.1.2.2.2.2.1) (y1.1.2.2.2.2.2.1) (y1.1.2.2.2.2.2.2.1) (y1.1.2.2.2.2.2.2.2.1) (y1.1.2.2.2.2.2.2.2.2.1) (y1.1.2.2.2.2.2.2.2.2.2.1) (y1.1.2.2.2.2.2.2.2.2.2.2) 0 3599 y8) ∧ (y8 = y)) (false = y))) (false = y)) (false = y)) (false = y)) (false = y)) (false = y)) (false = y)) (false = y)) (false = y)))))))
theorem q4_t (y : Bool) : acall q4_cx okT lpT 60 (.fn 4 [] []) [] [] (leafK B4 y) = curfewlaw10_wakes_F ipT y := by kernel_rfl
theorem q4_r (y : Bool) : curfewlaw10_wakes_R y → curfewlaw10_wakes_F ipT y := by
  unfold curfewlaw10_wakes_R curfewlaw10_wakes_F
  refine MI.run ?_
  repeat' (first | intro _ | with_reducible constructor)
abbrev r4 (x : A4.den) (y : B4.den) : Prop := curfewlaw10_wakes_R y
theorem curfewlaw10_wakes_ok : FxOk Tryz.prog gsT 4 A4 B4 r4 := fo (c := q4_cx) rfl rfl (Fns_assoc ⟨b4, job_Of_ok, job_Times_ok, job_First_ok, slices_Equal__int64_int64_ok, job_Idle_ok, trivial⟩) (n := 60) (lp_ok) (enters Tryz.func4 (by kernel_rfl) rfl) (fun y => ⟨_, rfl⟩) fun x y h => Eq.mpr (q4_t y) (q4_r y h)
def e4 : Nat × Ent := (4, .fx A4 B4 r4)
noncomputable def c5 : Nat × Ent := (5, .body Tryz.f5)
theorem b5 {c : Cx} : EntOk Tryz.prog c 5 (.body Tryz.f5) := body_ent Tryz.func5 (by kernel_rfl) (by kernel_rfl)
abbrev A5 : RT := (.one (.agg (.cons (.int .u32) (.cons .str (.cons (.int .i64) (.cons (.int .i64) (.cons (.int .i64) (.one (.int .i64)))))))))
abbrev B5 : RT := (.agg (.cons (.int .u32) (.cons .str (.cons (.int .i64) (.cons (.int .i64) (.cons (.int .i64) (.one (.int .i64))))))))
noncomputable def q5_cx : Cx := ⟨tyT, [c5], gsT, eqT, false⟩
def curfewlaw10_cut_F (i : Ip) (a0 : Int) (a1 : ByteArray) (a2 a3 a4 a5 : Int) (y : Int × ByteArray × Int × Int × Int × Int) : Prop :=
  (i.r2 (((decide (0 ≤ (if 260 < ((ByteArray.size a1 : Nat) : Int) then 260 else ((ByteArray.size a1 : Nat) : Int)))) && (Nat.ble (Int.toNat (if 260 < ((ByteArray.size a1 : Nat) : Int) then 260 else ((ByteArray.size a1 : Nat) : Int))) (ByteArray.size a1))) && (Nat.ble 0 (Int.toNat (if 260 < ((ByteArray.size a1 : Nat) : Int) then 260 else ((ByteArray.size a1 : Nat) : Int))))) (((decide (0 ≤ (if 260 < ((ByteArray.size a1 : Nat) : Int) then 260 else ((ByteArray.size a1 : Nat) : Int)))) && (Nat.ble (Int.toNat (if 260 < ((ByteArray.size a1 : Nat) : Int) then 260 else ((ByteArray.size a1 : Nat) : Int))) (ByteArray.size a1))) && (true && (Nat.ble 0 (Int.toNat (if 260 < ((ByteArray.size a1 : Nat) : Int) then 260 else ((ByteArray.size a1 : Nat) : Int)))))) (fun q => (band (band (band_l (band_l q)) (band_r (band_l q))) (band rfl (band_r q)))) ((a0, ((ByteArray.extract a1 0 (Int.toNat (if 260 < ((ByteArray.size a1 : Nat) : Int) then 260 else ((ByteArray.size a1 : Nat) : Int)))), (a2, (a3, (a4, a5))))) = y))
def curfewlaw10_cut_R (a0 : Int) (a1 : ByteArray) (a2 a3 a4 a5 : Int) (y : Int × ByteArray × Int × Int × Int × Int) : Prop :=
  (req (((decide (0 ≤ (if 260 < ((ByteArray.size a1 : Nat) : Int) then 260 else ((ByteArray.size a1 : Nat) : Int)))) && (Nat.ble (Int.toNat (if 260 < ((ByteArray.size a1 : Nat) : Int) then 260 else ((ByteArray.size a1 : Nat) : Int))) (ByteArray.size a1))) && (Nat.ble 0 (Int.toNat (if 260 < ((ByteArray.size a1 : Nat) : Int) then 260 else ((ByteArray.size a1 : Nat) : Int))))) ((a0, ((ByteArray.extract a1 0 (Int.toNat (if 260 < ((ByteArray.size a1 : Nat) : Int) then 260 else ((ByteArray.size a1 : Nat) : Int)))), (a2, (a3, (a4, a5))))) = y))
theorem q5_t (a0 : Int) (a1 : ByteArray) (a2 a3 a4 a5 : Int) (y : Int × ByteArray × Int × Int × Int × Int) : acall q5_cx okT lpT 60 (.fn 5 [] []) [(V.agg [(V.int .u32 a0), (V.str a1), (vi a2), (vi a3), (vi a4), (vi a5)])] [] (leafK B5 y) = curfewlaw10_cut_F ipT a0 a1 a2 a3 a4 a5 y := by kernel_rfl
theorem q5_r (a0 : Int) (a1 : ByteArray) (a2 a3 a4 a5 : Int) (y : Int × ByteArray × Int × Int × Int × Int) : curfewlaw10_cut_R a0 a1 a2 a3 a4 a5 y → curfewlaw10_cut_F ipT a0 a1 a2 a3 a4 a5 y := by
  unfold curfewlaw10_cut_R curfewlaw10_cut_F
  refine MI.run ?_
  repeat' (first | intro _ | with_reducible constructor)
abbrev r5 (x : A5.den) (y : B5.den) : Prop := curfewlaw10_cut_R (x.1) (x.2.1) (x.2.2.1) (x.2.2.2.1) (x.2.2.2.2.1) (x.2.2.2.2.2) y
theorem curfewlaw10_cut_ok : FxOk Tryz.prog gsT 5 A5 B5 r5 := fo (c := q5_cx) rfl rfl (Fns_assoc ⟨b5, trivial⟩) (n := 60) (lp_ok) (enters Tryz.func5 (by kernel_rfl) rfl) (fun y => ⟨_, rfl⟩) fun x y h => Eq.mpr (q5_t _ _ _ _ _ _ y) (q5_r _ _ _ _ _ _ y h)
def e5 : Nat × Ent := (5, .fx A5 B5 r5)
noncomputable def c14 : Nat × Ent := (14, .body Tryz.f14)
theorem b14 {c : Cx} : EntOk Tryz.prog c 14 (.body Tryz.f14) := body_ent Tryz.func14 (by kernel_rfl) (by kernel_rfl)
abbrev A14 : RT := (.cons (.int .u32) (.cons (.int .i64) (.cons (.int .i64) (.one (.int .i64)))))
abbrev B14 : RT := .bool
noncomputable def q14_cx : Cx := ⟨tyT, [c14], gsT, eqT, false⟩
def curfewref10_plain_R (a0 a1 a2 a3 : Int) (y : Bool) : Prop :=
  (br (a0 != 0) (br (a1 == 0) (br (decide (a2 ≥ 0)) (br (decide (a2 ≤ 2)) (br (decide (a3 ≥ 0)) ((decide (a3 ≤ 3)) = y) (false = y)) (false = y)) (false = y)) (br (a1 == 1) (br (decide (a2 ≥ 0)) (br (decide (a2 ≤ 2)) (br (decide (a3 ≥ 0)) ((decide (a3 ≤ 3)) = y) (false = y)) (false = y)) (false = y)) (false = y))) (false = y))
theorem q14_t (a0 a1 a2 a3 : Int) (y : Bool) : acall q14_cx okT lpT 60 (.fn 14 [] []) [(V.int .u32 a0), (vi a1), (vi a2), (vi a3)] [] (leafK B14 y) = curfewref10_plain_R a0 a1 a2 a3 y := by kernel_rfl
abbrev r14 (x : A14.den) (y : B14.den) : Prop := curfewref10_plain_R (x.1) (x.2.1) (x.2.2.1) (x.2.2.2) y
theorem curfewref10_plain_ok : FxOk Tryz.prog gsT 14 A14 B14 r14 := fo (c := q14_cx) rfl rfl (Fns_assoc ⟨b14, trivial⟩) (n := 60) (lp_ok) (enters Tryz.func14 (by kernel_rfl) rfl) (fun y => ⟨_, rfl⟩) fun x y h => Eq.mpr (q14_t _ _ _ _ y) h
def e14 : Nat × Ent := (14, .fx A14 B14 r14)
noncomputable def c15 : Nat × Ent := (15, .body Tryz.f15)
theorem b15 {c : Cx} : EntOk Tryz.prog c 15 (.body Tryz.f15) := body_ent Tryz.func15 (by kernel_rfl) (by kernel_rfl)
abbrev A15 : RT := (.one (.int .i64))
abbrev B15 : RT := .bool
noncomputable def q15_cx : Cx := ⟨tyT, [c15], gsT, eqT, false⟩
def curfewref10_time_R (a0 : Int) (y : Bool) : Prop :=
  (br (decide (a0 ≥ 0)) ((decide (a0 ≤ 253402300799)) = y) (false = y))
theorem q15_t (a0 : Int) (y : Bool) : acall q15_cx okT lpT 60 (.fn 15 [] []) [(vi a0)] [] (leafK B15 y) = curfewref10_time_R a0 y := by kernel_rfl
abbrev r15 (x : A15.den) (y : B15.den) : Prop := curfewref10_time_R x y
theorem curfewref10_time_ok : FxOk Tryz.prog gsT 15 A15 B15 r15 := fo (c := q15_cx) rfl rfl (Fns_assoc ⟨b15, trivial⟩) (n := 60) (lp_ok) (enters Tryz.func15 (by kernel_rfl) rfl) (fun y => ⟨_, rfl⟩) fun x y h => Eq.mpr (q15_t _ y) h
def e15 : Nat × Ent := (15, .fx A15 B15 r15)
noncomputable def c26 : Nat × Ent := (26, .body Tryz.f26)
theorem b26 {c : Cx} : EntOk Tryz.prog c 26 (.body Tryz.f26) := body_ent Tryz.func26 (by kernel_rfl) (by kernel_rfl)
abbrev A26 : RT := (.one .str)
abbrev B26 : RT := (.nw (.pr (.int .i64) .str) 75)
noncomputable def q26_cx : Cx := ⟨tyT, [c26], gsT, eqT, false⟩
noncomputable def q26_0_body : Code := subC [1, 1, 0, 1, 0, 0] (bodyOf Tryz.f26)
abbrev curfewref07_words_l0_Z : Type := (List (Int × ByteArray)) × ByteArray × Int
abbrev curfewref07_words_l0_Y : Type := List (Int × ByteArray)
noncomputable def q26_0_k : LK := ⟨0, ⟨[(0, .w 1), (3, .row 0 2 (.z 0) (.c 0)), (4, .w 2)], [.row (.pr (.int .i64) .str) (.z 0) 75 (.c 0)], []⟩, [.sl (.pr (.int .i64) .str), .str, .int .i64], [], [.nat], [], [⟨(.exit 0), ⟨[(3, .row 0 2 (.z 0) (.c 0))], [.row (.pr (.int .i64) .str) (.z 0) 75 (.c 0)], []⟩, [.sl (.pr (.int .i64) .str)], [.nat], none⟩]⟩
def curfewref07_words_l0_j0 (l : curfewref07_words_l0_Z → curfewref07_words_l0_Y → Prop) (p0 : List (Int × ByteArray)) (p1 : Int) (p3 : ByteArray) (y2_ : curfewref07_words_l0_Y) : Prop :=
  (req (Nat.ble ((List.length (p0 ++ [(p1, (⟨#[]⟩ : ByteArray))])) * 25) 140737488355328) (req ((decide (0 ≤ (IntKind.wrap .i64 ((((List.length (p0 ++ [(p1, (⟨#[]⟩ : ByteArray))])) : Nat) : Int) - 1)))) && (decide ((IntKind.wrap .i64 ((((List.length (p0 ++ [(p1, (⟨#[]⟩ : ByteArray))])) : Nat) : Int) - 1)) < (((List.length (p0 ++ [(p1, (⟨#[]⟩ : ByteArray))])) : Nat) : Int)))) (req (Nat.blt (Int.toNat (IntKind.wrap .i64 ((((List.length (p0 ++ [(p1, (⟨#[]⟩ : ByteArray))])) : Nat) : Int) - 1))) (List.length (p0 ++ [(p1, (⟨#[]⟩ : ByteArray))]))) (req ((((decide (0 ≤ (IntKind.wrap .i64 (p1 + 1)))) && (Nat.ble (Int.toNat (IntKind.wrap .i64 (p1 + 1))) (ByteArray.size p3))) && (decide (0 ≤ p1))) && (Nat.ble (Int.toNat p1) (Int.toNat (IntKind.wrap .i64 (p1 + 1))))) (req (decide (ByteArray.size ((List.getD (p0 ++ [(p1, (⟨#[]⟩ : ByteArray))]) (Int.toNat (IntKind.wrap .i64 ((((List.length (p0 ++ [(p1, (⟨#[]⟩ : ByteArray))])) : Nat) : Int) - 1))) (0, (⟨#[]⟩ : ByteArray))).2) + ByteArray.size (ByteArray.extract p3 (Int.toNat p1) (Int.toNat (IntKind.wrap .i64 (p1 + 1)))) ≤ 9223372036854775807)) (req ((decide (0 ≤ (IntKind.wrap .i64 ((((List.length (p0 ++ [(p1, (⟨#[]⟩ : ByteArray))])) : Nat) : Int) - 1)))) && (decide ((IntKind.wrap .i64 ((((List.length (p0 ++ [(p1, (⟨#[]⟩ : ByteArray))])) : Nat) : Int) - 1)) < (((List.length (p0 ++ [(p1, (⟨#[]⟩ : ByteArray))])) : Nat) : Int)))) (req (Nat.blt (Int.toNat (IntKind.wrap .i64 ((((List.length (p0 ++ [(p1, (⟨#[]⟩ : ByteArray))])) : Nat) : Int) - 1))) (List.length (p0 ++ [(p1, (⟨#[]⟩ : ByteArray))]))) (l ((List.set (p0 ++ [(p1, (⟨#[]⟩ : ByteArray))]) (Int.toNat (IntKind.wrap .i64 ((((List.length (p0 ++ [(p1, (⟨#[]⟩ : ByteArray))])) : Nat) : Int) - 1))) (((List.getD (p0 ++ [(p1, (⟨#[]⟩ : ByteArray))]) (Int.toNat (IntKind.wrap .i64 ((((List.length (p0 ++ [(p1, (⟨#[]⟩ : ByteArray))])) : Nat) : Int) - 1))) (0, (⟨#[]⟩ : ByteArray))).1), (((List.getD (p0 ++ [(p1, (⟨#[]⟩ : ByteArray))]) (Int.toNat (IntKind.wrap .i64 ((((List.length (p0 ++ [(p1, (⟨#[]⟩ : ByteArray))])) : Nat) : Int) - 1))) (0, (⟨#[]⟩ : ByteArray))).2) ++ (ByteArray.extract p3 (Int.toNat p1) (Int.toNat (IntKind.wrap .i64 (p1 + 1))))))), p3, (IntKind.wrap .i64 (p1 + 1))) y2_))))))))
def curfewref07_words_l0_j0F (i : Ip) (l : curfewref07_words_l0_Z → curfewref07_words_l0_Y → Prop) (p0 : List (Int × ByteArray)) (p1 : Int) (p2 : Nat) (p3 : ByteArray) (y2_ : curfewref07_words_l0_Y) : Prop :=
  (i.r2 (Nat.ble ((List.length (p0 ++ [(p1, (⟨#[]⟩ : ByteArray))])) * 25) 140737488355328) (((((true && (true && true)) && true) && (Nat.beq (List.length p0) (List.length p0))) && (Nat.beq p2 p2)) && (Nat.ble ((List.length (p0 ++ [(p1, (⟨#[]⟩ : ByteArray))])) * 25) 140737488355328)) (fun q => (band (band (band (band (band rfl (band rfl rfl)) rfl) (Nat.beq_refl _)) (Nat.beq_refl _)) q)) (i.cp (List.length (p0 ++ [(p1, (⟨#[]⟩ : ByteArray))])) fun c3 hc3 => (i.rq ((decide (0 ≤ (IntKind.wrap .i64 ((((List.length (p0 ++ [(p1, (⟨#[]⟩ : ByteArray))])) : Nat) : Int) - 1)))) && (decide ((IntKind.wrap .i64 ((((List.length (p0 ++ [(p1, (⟨#[]⟩ : ByteArray))])) : Nat) : Int) - 1)) < (((List.length (p0 ++ [(p1, (⟨#[]⟩ : ByteArray))])) : Nat) : Int)))) (i.rq (Nat.blt (Int.toNat (IntKind.wrap .i64 ((((List.length (p0 ++ [(p1, (⟨#[]⟩ : ByteArray))])) : Nat) : Int) - 1))) (List.length (p0 ++ [(p1, (⟨#[]⟩ : ByteArray))]))) (i.r2 ((((decide (0 ≤ (IntKind.wrap .i64 (p1 + 1)))) && (Nat.ble (Int.toNat (IntKind.wrap .i64 (p1 + 1))) (ByteArray.size p3))) && (decide (0 ≤ p1))) && (Nat.ble (Int.toNat p1) (Int.toNat (IntKind.wrap .i64 (p1 + 1))))) (((decide (0 ≤ (IntKind.wrap .i64 (p1 + 1)))) && (Nat.ble (Int.toNat (IntKind.wrap .i64 (p1 + 1))) (ByteArray.size p3))) && ((decide (0 ≤ p1)) && (Nat.ble (Int.toNat p1) (Int.toNat (IntKind.wrap .i64 (p1 + 1)))))) (fun q => (band (band (band_l (band_l (band_l q))) (band_r (band_l (band_l q)))) (band (band_r (band_l q)) (band_r q)))) (i.rq (decide (ByteArray.size ((List.getD (p0 ++ [(p1, (⟨#[]⟩ : ByteArray))]) (Int.toNat (IntKind.wrap .i64 ((((List.length (p0 ++ [(p1, (⟨#[]⟩ : ByteArray))])) : Nat) : Int) - 1))) (0, (⟨#[]⟩ : ByteArray))).2) + ByteArray.size (ByteArray.extract p3 (Int.toNat p1) (Int.toNat (IntKind.wrap .i64 (p1 + 1)))) ≤ 9223372036854775807)) (i.rq ((decide (0 ≤ (IntKind.wrap .i64 ((((List.length (p0 ++ [(p1, (⟨#[]⟩ : ByteArray))])) : Nat) : Int) - 1)))) && (decide ((IntKind.wrap .i64 ((((List.length (p0 ++ [(p1, (⟨#[]⟩ : ByteArray))])) : Nat) : Int) - 1)) < (((List.length (p0 ++ [(p1, (⟨#[]⟩ : ByteArray))])) : Nat) : Int)))) (i.r2 (Nat.blt (Int.toNat (IntKind.wrap .i64 ((((List.length (p0 ++ [(p1, (⟨#[]⟩ : ByteArray))])) : Nat) : Int) - 1))) (List.length (p0 ++ [(p1, (⟨#[]⟩ : ByteArray))]))) ((true && true) && (Nat.blt (Int.toNat (IntKind.wrap .i64 ((((List.length (p0 ++ [(p1, (⟨#[]⟩ : ByteArray))])) : Nat) : Int) - 1))) (List.length (p0 ++ [(p1, (⟨#[]⟩ : ByteArray))])))) (fun q => (band (band rfl rfl) q)) (i.tf [(V.row 0 2 (List.length (p0 ++ [(p1, (⟨#[]⟩ : ByteArray))])) c3)] [(V.row 0 2 (List.length (List.set (p0 ++ [(p1, (⟨#[]⟩ : ByteArray))]) (Int.toNat (IntKind.wrap .i64 ((((List.length (p0 ++ [(p1, (⟨#[]⟩ : ByteArray))])) : Nat) : Int) - 1))) (((List.getD (p0 ++ [(p1, (⟨#[]⟩ : ByteArray))]) (Int.toNat (IntKind.wrap .i64 ((((List.length (p0 ++ [(p1, (⟨#[]⟩ : ByteArray))])) : Nat) : Int) - 1))) (0, (⟨#[]⟩ : ByteArray))).1), (((List.getD (p0 ++ [(p1, (⟨#[]⟩ : ByteArray))]) (Int.toNat (IntKind.wrap .i64 ((((List.length (p0 ++ [(p1, (⟨#[]⟩ : ByteArray))])) : Nat) : Int) - 1))) (0, (⟨#[]⟩ : ByteArray))).2) ++ (ByteArray.extract p3 (Int.toNat p1) (Int.toNat (IntKind.wrap .i64 (p1 + 1)))))))) c3)] (by simp only [List.length_set]) [] (l ((List.set (p0 ++ [(p1, (⟨#[]⟩ : ByteArray))]) (Int.toNat (IntKind.wrap .i64 ((((List.length (p0 ++ [(p1, (⟨#[]⟩ : ByteArray))])) : Nat) : Int) - 1))) (((List.getD (p0 ++ [(p1, (⟨#[]⟩ : ByteArray))]) (Int.toNat (IntKind.wrap .i64 ((((List.length (p0 ++ [(p1, (⟨#[]⟩ : ByteArray))])) : Nat) : Int) - 1))) (0, (⟨#[]⟩ : ByteArray))).1), (((List.getD (p0 ++ [(p1, (⟨#[]⟩ : ByteArray))]) (Int.toNat (IntKind.wrap .i64 ((((List.length (p0 ++ [(p1, (⟨#[]⟩ : ByteArray))])) : Nat) : Int) - 1))) (0, (⟨#[]⟩ : ByteArray))).2) ++ (ByteArray.extract p3 (Int.toNat p1) (Int.toNat (IntKind.wrap .i64 (p1 + 1))))))), p3, (IntKind.wrap .i64 (p1 + 1))) y2_))))))))))
theorem curfewref07_words_l0_j0_r (l : curfewref07_words_l0_Z → curfewref07_words_l0_Y → Prop) (p0 : List (Int × ByteArray)) (p1 : Int) (p2 : Nat) (p3 : ByteArray) (y2_ : curfewref07_words_l0_Y) : MI (curfewref07_words_l0_j0 l p0 p1 p3 y2_) (curfewref07_words_l0_j0F ipT l p0 p1 p2 p3 y2_) := by
  unfold curfewref07_words_l0_j0 curfewref07_words_l0_j0F
  repeat' (first | intro _ | with_reducible constructor)
def curfewref07_words_l0_F (i : Ip) (l : curfewref07_words_l0_Z → curfewref07_words_l0_Y → Prop) (z1x0 : List (Int × ByteArray)) (z1x1 : ByteArray) (z1x2 : Int) (z1k0 : Nat) (y2_ : curfewref07_words_l0_Y) : Prop :=
  (br (decide (z1x2 < ((ByteArray.size z1x1 : Nat) : Int))) (i.rq ((decide (0 ≤ z1x2)) && (decide (z1x2 < ((ByteArray.size z1x1 : Nat) : Int)))) (br ((((List.getD (Array.toList (ByteArray.data z1x1)) (Int.toNat z1x2) 0).toNat : Nat) : Int) == 32) (i.te [(V.row 0 2 (List.length z1x0) z1k0)] [] (l (z1x0, z1x1, (IntKind.wrap .i64 (z1x2 + 1))) y2_)) (br (z1x2 == 0) (curfewref07_words_l0_j0F i l z1x0 z1x2 z1k0 z1x1 y2_) (i.rq ((decide (0 ≤ (IntKind.wrap .i64 (z1x2 - 1)))) && (decide ((IntKind.wrap .i64 (z1x2 - 1)) < ((ByteArray.size z1x1 : Nat) : Int)))) (br ((((List.getD (Array.toList (ByteArray.data z1x1)) (Int.toNat (IntKind.wrap .i64 (z1x2 - 1))) 0).toNat : Nat) : Int) == 32) (curfewref07_words_l0_j0F i l z1x0 z1x2 z1k0 z1x1 y2_) (i.rq ((decide (0 ≤ (IntKind.wrap .i64 ((((List.length z1x0) : Nat) : Int) - 1)))) && (decide ((IntKind.wrap .i64 ((((List.length z1x0) : Nat) : Int) - 1)) < (((List.length z1x0) : Nat) : Int)))) (i.rq (Nat.blt (Int.toNat (IntKind.wrap .i64 ((((List.length z1x0) : Nat) : Int) - 1))) (List.length z1x0)) (i.r2 ((((decide (0 ≤ (IntKind.wrap .i64 (z1x2 + 1)))) && (Nat.ble (Int.toNat (IntKind.wrap .i64 (z1x2 + 1))) (ByteArray.size z1x1))) && (decide (0 ≤ z1x2))) && (Nat.ble (Int.toNat z1x2) (Int.toNat (IntKind.wrap .i64 (z1x2 + 1))))) (((decide (0 ≤ (IntKind.wrap .i64 (z1x2 + 1)))) && (Nat.ble (Int.toNat (IntKind.wrap .i64 (z1x2 + 1))) (ByteArray.size z1x1))) && ((decide (0 ≤ z1x2)) && (Nat.ble (Int.toNat z1x2) (Int.toNat (IntKind.wrap .i64 (z1x2 + 1)))))) (fun q => (band (band (band_l (band_l (band_l q))) (band_r (band_l (band_l q)))) (band (band_r (band_l q)) (band_r q)))) (i.rq (decide (ByteArray.size ((List.getD z1x0 (Int.toNat (IntKind.wrap .i64 ((((List.length z1x0) : Nat) : Int) - 1))) (0, (⟨#[]⟩ : ByteArray))).2) + ByteArray.size (ByteArray.extract z1x1 (Int.toNat z1x2) (Int.toNat (IntKind.wrap .i64 (z1x2 + 1)))) ≤ 9223372036854775807)) (i.rq ((decide (0 ≤ (IntKind.wrap .i64 ((((List.length z1x0) : Nat) : Int) - 1)))) && (decide ((IntKind.wrap .i64 ((((List.length z1x0) : Nat) : Int) - 1)) < (((List.length z1x0) : Nat) : Int)))) (i.r2 (Nat.blt (Int.toNat (IntKind.wrap .i64 ((((List.length z1x0) : Nat) : Int) - 1))) (List.length z1x0)) ((true && true) && (Nat.blt (Int.toNat (IntKind.wrap .i64 ((((List.length z1x0) : Nat) : Int) - 1))) (List.length z1x0))) (fun q => (band (band rfl rfl) q)) (i.tf [(V.row 0 2 (List.length z1x0) z1k0)] [(V.row 0 2 (List.length (List.set z1x0 (Int.toNat (IntKind.wrap .i64 ((((List.length z1x0) : Nat) : Int) - 1))) (((List.getD z1x0 (Int.toNat (IntKind.wrap .i64 ((((List.length z1x0) : Nat) : Int) - 1))) (0, (⟨#[]⟩ : ByteArray))).1), (((List.getD z1x0 (Int.toNat (IntKind.wrap .i64 ((((List.length z1x0) : Nat) : Int) - 1))) (0, (⟨#[]⟩ : ByteArray))).2) ++ (ByteArray.extract z1x1 (Int.toNat z1x2) (Int.toNat (IntKind.wrap .i64 (z1x2 + 1)))))))) z1k0)] (by simp only [List.length_set]) [] (l ((List.set z1x0 (Int.toNat (IntKind.wrap .i64 ((((List.length z1x0) : Nat) : Int) - 1))) (((List.getD z1x0 (Int.toNat (IntKind.wrap .i64 ((((List.length z1x0) : Nat) : Int) - 1))) (0, (⟨#[]⟩ : ByteArray))).1), (((List.getD z1x0 (Int.toNat (IntKind.wrap .i64 ((((List.length z1x0) : Nat) : Int) - 1))) (0, (⟨#[]⟩ : ByteArray))).2) ++ (ByteArray.extract z1x1 (Int.toNat z1x2) (Int.toNat (IntKind.wrap .i64 (z1x2 + 1))))))), z1x1, (IntKind.wrap .i64 (z1x2 + 1))) y2_))))))))))))) (i.te [(V.row 0 2 (List.length z1x0) z1k0)] [] (z1x0 = y2_)))
def curfewref07_words_l0 : Nat → curfewref07_words_l0_Z → curfewref07_words_l0_Y → Prop
  | 0, _, _ => False
  | k + 1, (z1x0, z1x1, z1x2), y2_ => (br (decide (z1x2 < ((ByteArray.size z1x1 : Nat) : Int))) (req ((decide (0 ≤ z1x2)) && (decide (z1x2 < ((ByteArray.size z1x1 : Nat) : Int)))) (br ((((List.getD (Array.toList (ByteArray.data z1x1)) (Int.toNat z1x2) 0).toNat : Nat) : Int) == 32) (curfewref07_words_l0 k (z1x0, z1x1, (IntKind.wrap .i64 (z1x2 + 1))) y2_) (br (z1x2 == 0) (curfewref07_words_l0_j0 (curfewref07_words_l0 k) z1x0 z1x2 z1x1 y2_) (req ((decide (0 ≤ (IntKind.wrap .i64 (z1x2 - 1)))) && (decide ((IntKind.wrap .i64 (z1x2 - 1)) < ((ByteArray.size z1x1 : Nat) : Int)))) (br ((((List.getD (Array.toList (ByteArray.data z1x1)) (Int.toNat (IntKind.wrap .i64 (z1x2 - 1))) 0).toNat : Nat) : Int) == 32) (curfewref07_words_l0_j0 (curfewref07_words_l0 k) z1x0 z1x2 z1x1 y2_) (req ((decide (0 ≤ (IntKind.wrap .i64 ((((List.length z1x0) : Nat) : Int) - 1)))) && (decide ((IntKind.wrap .i64 ((((List.length z1x0) : Nat) : Int) - 1)) < (((List.length z1x0) : Nat) : Int)))) (req (Nat.blt (Int.toNat (IntKind.wrap .i64 ((((List.length z1x0) : Nat) : Int) - 1))) (List.length z1x0)) (req ((((decide (0 ≤ (IntKind.wrap .i64 (z1x2 + 1)))) && (Nat.ble (Int.toNat (IntKind.wrap .i64 (z1x2 + 1))) (ByteArray.size z1x1))) && (decide (0 ≤ z1x2))) && (Nat.ble (Int.toNat z1x2) (Int.toNat (IntKind.wrap .i64 (z1x2 + 1))))) (req (decide (ByteArray.size ((List.getD z1x0 (Int.toNat (IntKind.wrap .i64 ((((List.length z1x0) : Nat) : Int) - 1))) (0, (⟨#[]⟩ : ByteArray))).2) + ByteArray.size (ByteArray.extract z1x1 (Int.toNat z1x2) (Int.toNat (IntKind.wrap .i64 (z1x2 + 1)))) ≤ 9223372036854775807)) (req ((decide (0 ≤ (IntKind.wrap .i64 ((((List.length z1x0) : Nat) : Int) - 1)))) && (decide ((IntKind.wrap .i64 ((((List.length z1x0) : Nat) : Int) - 1)) < (((List.length z1x0) : Nat) : Int)))) (req (Nat.blt (Int.toNat (IntKind.wrap .i64 ((((List.length z1x0) : Nat) : Int) - 1))) (List.length z1x0)) (curfewref07_words_l0 k ((List.set z1x0 (Int.toNat (IntKind.wrap .i64 ((((List.length z1x0) : Nat) : Int) - 1))) (((List.getD z1x0 (Int.toNat (IntKind.wrap .i64 ((((List.length z1x0) : Nat) : Int) - 1))) (0, (⟨#[]⟩ : ByteArray))).1), (((List.getD z1x0 (Int.toNat (IntKind.wrap .i64 ((((List.length z1x0) : Nat) : Int) - 1))) (0, (⟨#[]⟩ : ByteArray))).2) ++ (ByteArray.extract z1x1 (Int.toNat z1x2) (Int.toNat (IntKind.wrap .i64 (z1x2 + 1))))))), z1x1, (IntKind.wrap .i64 (z1x2 + 1))) y2_)))))))))))) (z1x0 = y2_))
def curfewref07_words_l0_L (z : curfewref07_words_l0_Z) (y : curfewref07_words_l0_Y) : Prop := ∃ k, curfewref07_words_l0 k z y
noncomputable def q26_0_lp : Lp := .auto none q26_0_body (loopK q26_0_k fun z y => ∃ k, curfewref07_words_l0 k z y)
noncomputable def q26_lp : Nat → FuncId → Nat → Nat → Lp := lpTab [(26, 3, 0, 0, q26_0_lp)]
theorem q26_0_t (n k : Nat) (z1x0 : List (Int × ByteArray)) (z1x1 : ByteArray) (z1x2 : Int) (z1k0 : Nat) (y2_ : curfewref07_words_l0_Y) : rnd q26_cx okT q26_lp (n + 0) 26 none q26_0_body q26_0_k (curfewref07_words_l0 k) (z1x0, z1x1, z1x2) () z1k0 y2_ = curfewref07_words_l0_F ipT (fun z y => curfewref07_words_l0 k z y) z1x0 z1x1 z1x2 z1k0 y2_ := by kernel_rfl
theorem q26_0_r (k : Nat) (z1x0 : List (Int × ByteArray)) (z1x1 : ByteArray) (z1x2 : Int) (z1k0 : Nat) (y2_ : curfewref07_words_l0_Y) : curfewref07_words_l0 (k + 1) (z1x0, z1x1, z1x2) y2_ → curfewref07_words_l0_F ipT (fun z y => curfewref07_words_l0 k z y) z1x0 z1x1 z1x2 z1k0 y2_ := by
  unfold curfewref07_words_l0_F
  intro h; simp only [curfewref07_words_l0] at h; revert h
  refine MI.run ?_
  repeat' (first | intro _ | exact curfewref07_words_l0_j0_r _ _ _ _ _ _ | with_reducible constructor)
theorem q26_0_ok (n : Nat) : Owed q26_cx okT 26 q26_lp (n + 0) q26_0_lp := owed_rnd (lk := q26_0_k) (l := curfewref07_words_l0) (fun z y h => h) fun k z q c y h => Eq.mpr (q26_0_t n k z.1 z.2.1 z.2.2 c y) (q26_0_r k z.1 z.2.1 z.2.2 c y h)
def curfewref07_words_F (i : Ip) (a0 : ByteArray) (y : List (Int × ByteArray)) : Prop :=
  (i.lo none q26_0_body (i.te [(V.row 0 2 0 0)] [] (∃ y6 : curfewref07_words_l0_Y, curfewref07_words_l0_L ([], a0, 0) y6 ∧ (i.cq [.nat] fun y6c => (i.tr (true && ((Nat.beq (List.length y6) (List.length y6)) && (Nat.beq y6c y6c))) (band rfl (band (Nat.beq_refl _) (Nat.beq_refl _))) (y6 = y))))))
def curfewref07_words_R (a0 : ByteArray) (y : List (Int × ByteArray)) : Prop :=
  (∃ y6 : curfewref07_words_l0_Y, curfewref07_words_l0_L ([], a0, 0) y6 ∧ (y6 = y))
theorem q26_t (a0 : ByteArray) (y : List (Int × ByteArray)) : acall q26_cx okT q26_lp 60 (.fn 26 [] []) [(V.str a0)] [] (leafK B26 y) = curfewref07_words_F ipT a0 y := by kernel_rfl
theorem q26_r (a0 : ByteArray) (y : List (Int × ByteArray)) : curfewref07_words_R a0 y → curfewref07_words_F ipT a0 y := by
  unfold curfewref07_words_R curfewref07_words_F
  refine MI.run ?_
  repeat' (first | intro _ | with_reducible constructor)
abbrev r26 (x : A26.den) (y : B26.den) : Prop := curfewref07_words_R x y
theorem curfewref07_words_ok : FxOk Tryz.prog gsT 26 A26 B26 r26 := fo (c := q26_cx) rfl rfl (Fns_assoc ⟨b26, trivial⟩) (lp := q26_lp) (n := 60) (LpOk_tab ⟨q26_0_ok, trivial⟩) (enters Tryz.func26 (by kernel_rfl) rfl) (fun y => ⟨_, rfl⟩) fun x y h => Eq.mpr (q26_t _ y) (q26_r _ y h)
def e26 : Nat × Ent := (26, .fx A26 B26 r26)
noncomputable def c27 : Nat × Ent := (27, .body Tryz.f27)
theorem b27 {c : Cx} : EntOk Tryz.prog c 27 (.body Tryz.f27) := body_ent Tryz.func27 (by kernel_rfl) (by kernel_rfl)
abbrev A27 : RT := (.one .str)
abbrev B27 : RT := .str
noncomputable def q27_cx : Cx := ⟨tyT, [c27], gsT, eqT, false⟩
def curfewref07_Macro_j0 (p0 y : ByteArray) : Prop :=
  (br (ByteArray.toList p0 == ByteArray.toList (⟨#[64, 109, 111, 110, 116, 104, 108, 121]⟩ : ByteArray)) ((⟨#[48, 32, 48, 32, 49, 32, 42, 32, 42]⟩ : ByteArray) = y) (br (ByteArray.toList p0 == ByteArray.toList (⟨#[64, 119, 101, 101, 107, 108, 121]⟩ : ByteArray)) ((⟨#[48, 32, 48, 32, 42, 32, 42, 32, 48]⟩ : ByteArray) = y) (br (ByteArray.toList p0 == ByteArray.toList (⟨#[64, 100, 97, 105, 108, 121]⟩ : ByteArray)) (br (ByteArray.toList p0 == ByteArray.toList (⟨#[64, 100, 97, 105, 108, 121]⟩ : ByteArray)) ((⟨#[48, 32, 48, 32, 42, 32, 42, 32, 42]⟩ : ByteArray) = y) (br (ByteArray.toList p0 == ByteArray.toList (⟨#[64, 104, 111, 117, 114, 108, 121]⟩ : ByteArray)) ((⟨#[48, 32, 42, 32, 42, 32, 42, 32, 42]⟩ : ByteArray) = y) ((⟨#[]⟩ : ByteArray) = y))) (br (ByteArray.toList p0 == ByteArray.toList (⟨#[64, 109, 105, 100, 110, 105, 103, 104, 116]⟩ : ByteArray)) ((⟨#[48, 32, 48, 32, 42, 32, 42, 32, 42]⟩ : ByteArray) = y) (br (ByteArray.toList p0 == ByteArray.toList (⟨#[64, 104, 111, 117, 114, 108, 121]⟩ : ByteArray)) ((⟨#[48, 32, 42, 32, 42, 32, 42, 32, 42]⟩ : ByteArray) = y) ((⟨#[]⟩ : ByteArray) = y))))))
def curfewref07_Macro_R (a0 : ByteArray) (y : ByteArray) : Prop :=
  (br (ByteArray.toList a0 == ByteArray.toList (⟨#[64, 121, 101, 97, 114, 108, 121]⟩ : ByteArray)) (br (ByteArray.toList a0 == ByteArray.toList (⟨#[64, 121, 101, 97, 114, 108, 121]⟩ : ByteArray)) ((⟨#[48, 32, 48, 32, 49, 32, 49, 32, 42]⟩ : ByteArray) = y) (curfewref07_Macro_j0 a0 y)) (br (ByteArray.toList a0 == ByteArray.toList (⟨#[64, 97, 110, 110, 117, 97, 108, 108, 121]⟩ : ByteArray)) ((⟨#[48, 32, 48, 32, 49, 32, 49, 32, 42]⟩ : ByteArray) = y) (curfewref07_Macro_j0 a0 y)))
theorem q27_t (a0 : ByteArray) (y : ByteArray) : acall q27_cx okT lpT 60 (.fn 27 [] []) [(V.str a0)] [] (leafK B27 y) = curfewref07_Macro_R a0 y := by kernel_rfl
abbrev r27 (x : A27.den) (y : B27.den) : Prop := curfewref07_Macro_R x y
theorem curfewref07_Macro_ok : FxOk Tryz.prog gsT 27 A27 B27 r27 := fo (c := q27_cx) rfl rfl (Fns_assoc ⟨b27, trivial⟩) (n := 60) (lp_ok) (enters Tryz.func27 (by kernel_rfl) rfl) (fun y => ⟨_, rfl⟩) fun x y h => Eq.mpr (q27_t _ y) h
def e27 : Nat × Ent := (27, .fx A27 B27 r27)
noncomputable def c43 : Nat × Ent := (43, .body Tryz.f43)
theorem b43 {c : Cx} : EntOk Tryz.prog c 43 (.body Tryz.f43) := body_ent Tryz.func43 (by kernel_rfl) (by kernel_rfl)
abbrev A43 : RT := (.cons .str (.one (.int .u8)))
abbrev B43 : RT := (.tup (.cons .str (.cons .str (.one .bool))))
noncomputable def q43_cx : Cx := ⟨tyT, [c43], gsT, eqT, false⟩
noncomputable def q43_0_body : Code := subC [1, 0, 1, 0, 0] (bodyOf Tryz.f43)
abbrev curfewref06_cut_l0_Z : Type := ByteArray × Int × Int
abbrev curfewref06_cut_l0_Y : Type := (ByteArray × ByteArray) ⊕ (Unit)
noncomputable def q43_0_k : LK := ⟨0, ⟨[(0, .w 0), (1, .w 1), (7, .w 2)], [], []⟩, [.str, .int .u8, .int .i64], [], [], [0], [⟨.ret, ⟨[(4, .w 0), (5, .w 1), (6, .lb true)], [], []⟩, [.str, .str], [], none⟩, ⟨(.exit 0), ⟨[(0, .e (.p 0))], [], []⟩, [], [], none⟩]⟩
def curfewref06_cut_l0_F (i : Ip) (l : curfewref06_cut_l0_Z → curfewref06_cut_l0_Y → Prop) (z1x0 : ByteArray) (z1x1 z1x2 : Int) (y2_ : curfewref06_cut_l0_Y) : Prop :=
  (br (decide (z1x2 < ((ByteArray.size z1x0 : Nat) : Int))) (i.rq ((decide (0 ≤ z1x2)) && (decide (z1x2 < ((ByteArray.size z1x0 : Nat) : Int)))) (br ((((List.getD (Array.toList (ByteArray.data z1x0)) (Int.toNat z1x2) 0).toNat : Nat) : Int) == z1x1) (i.r2 (((decide (0 ≤ z1x2)) && (Nat.ble (Int.toNat z1x2) (ByteArray.size z1x0))) && (Nat.ble 0 (Int.toNat z1x2))) (((decide (0 ≤ z1x2)) && (Nat.ble (Int.toNat z1x2) (ByteArray.size z1x0))) && (true && (Nat.ble 0 (Int.toNat z1x2)))) (fun q => (band (band (band_l (band_l q)) (band_r (band_l q))) (band rfl (band_r q)))) (i.r2 ((decide (0 ≤ (IntKind.wrap .i64 (z1x2 + 1)))) && (Nat.ble (Int.toNat (IntKind.wrap .i64 (z1x2 + 1))) (ByteArray.size z1x0))) ((true && (Nat.ble (ByteArray.size z1x0) (ByteArray.size z1x0))) && ((decide (0 ≤ (IntKind.wrap .i64 (z1x2 + 1)))) && (Nat.ble (Int.toNat (IntKind.wrap .i64 (z1x2 + 1))) (ByteArray.size z1x0)))) (fun q => (band (band rfl (ble_same _)) (band (band_l q) (band_r q)))) ((Sum.inl ((ByteArray.extract z1x0 0 (Int.toNat z1x2)), (ByteArray.extract z1x0 (Int.toNat (IntKind.wrap .i64 (z1x2 + 1))) (ByteArray.size z1x0)))) = y2_))) (i.tq [(V.str z1x0)] (l (z1x0, z1x1, (IntKind.wrap .i64 (z1x2 + 1))) y2_)))) (i.te [(V.str z1x0)] [] ((Sum.inr ()) = y2_)))
def curfewref06_cut_l0 : Nat → curfewref06_cut_l0_Z → curfewref06_cut_l0_Y → Prop
  | 0, _, _ => False
  | k + 1, (z1x0, z1x1, z1x2), y2_ => (br (decide (z1x2 < ((ByteArray.size z1x0 : Nat) : Int))) (req ((decide (0 ≤ z1x2)) && (decide (z1x2 < ((ByteArray.size z1x0 : Nat) : Int)))) (br ((((List.getD (Array.toList (ByteArray.data z1x0)) (Int.toNat z1x2) 0).toNat : Nat) : Int) == z1x1) (req (((decide (0 ≤ z1x2)) && (Nat.ble (Int.toNat z1x2) (ByteArray.size z1x0))) && (Nat.ble 0 (Int.toNat z1x2))) (req ((decide (0 ≤ (IntKind.wrap .i64 (z1x2 + 1)))) && (Nat.ble (Int.toNat (IntKind.wrap .i64 (z1x2 + 1))) (ByteArray.size z1x0))) ((Sum.inl ((ByteArray.extract z1x0 0 (Int.toNat z1x2)), (ByteArray.extract z1x0 (Int.toNat (IntKind.wrap .i64 (z1x2 + 1))) (ByteArray.size z1x0)))) = y2_))) (curfewref06_cut_l0 k (z1x0, z1x1, (IntKind.wrap .i64 (z1x2 + 1))) y2_))) ((Sum.inr ()) = y2_))
def curfewref06_cut_l0_L (z : curfewref06_cut_l0_Z) (y : curfewref06_cut_l0_Y) : Prop := ∃ k, curfewref06_cut_l0 k z y
noncomputable def q43_0_lp : Lp := .auto none q43_0_body (loopK q43_0_k fun z y => ∃ k, curfewref06_cut_l0 k z y)
noncomputable def q43_lp : Nat → FuncId → Nat → Nat → Lp := lpTab [(43, 2, 0, 0, q43_0_lp)]
theorem q43_0_t (n k : Nat) (z1x0 : ByteArray) (z1x1 z1x2 : Int) (y2_ : curfewref06_cut_l0_Y) : rnd q43_cx okT q43_lp (n + 0) 43 none q43_0_body q43_0_k (curfewref06_cut_l0 k) (z1x0, z1x1, z1x2) () () y2_ = curfewref06_cut_l0_F ipT (fun z y => curfewref06_cut_l0 k z y) z1x0 z1x1 z1x2 y2_ := by kernel_rfl
theorem q43_0_r (k : Nat) (z1x0 : ByteArray) (z1x1 z1x2 : Int) (y2_ : curfewref06_cut_l0_Y) : curfewref06_cut_l0 (k + 1) (z1x0, z1x1, z1x2) y2_ → curfewref06_cut_l0_F ipT (fun z y => curfewref06_cut_l0 k z y) z1x0 z1x1 z1x2 y2_ := by
  unfold curfewref06_cut_l0_F
  intro h; simp only [curfewref06_cut_l0] at h; revert h
  refine MI.run ?_
  repeat' (first | intro _ | with_reducible constructor)
theorem q43_0_ok (n : Nat) : Owed q43_cx okT 43 q43_lp (n + 0) q43_0_lp := owed_rnd (lk := q43_0_k) (l := curfewref06_cut_l0) (fun z y h => h) fun k z q c y h => Eq.mpr (q43_0_t n k z.1 z.2.1 z.2.2 y) (q43_0_r k z.1 z.2.1 z.2.2 y h)
def curfewref06_cut_F (i : Ip) (a0 : ByteArray) (a1 : Int) (y : ByteArray × ByteArray × Bool) : Prop :=
  (i.lo none q43_0_body (∃ y4 : curfewref06_cut_l0_Y, curfewref06_cut_l0_L (a0, a1, 0) y4 ∧ sume (fun y4 => (((y4.1), ((y4.2), true)) = y)) (fun y4 => ((a0, ((⟨#[]⟩ : ByteArray), false)) = y)) y4))
def curfewref06_cut_R (a0 : ByteArray) (a1 : Int) (y : ByteArray × ByteArray × Bool) : Prop :=
  (∃ y4 : curfewref06_cut_l0_Y, curfewref06_cut_l0_L (a0, a1, 0) y4 ∧ sume (fun y4 => (((y4.1), ((y4.2), true)) = y)) (fun y4 => ((a0, ((⟨#[]⟩ : ByteArray), false)) = y)) y4)
theorem q43_t (a0 : ByteArray) (a1 : Int) (y : ByteArray × ByteArray × Bool) : acall q43_cx okT q43_lp 60 (.fn 43 [] []) [(V.str a0), (V.int .u8 a1)] [] (leafK B43 y) = curfewref06_cut_F ipT a0 a1 y := by kernel_rfl
theorem q43_r (a0 : ByteArray) (a1 : Int) (y : ByteArray × ByteArray × Bool) : curfewref06_cut_R a0 a1 y → curfewref06_cut_F ipT a0 a1 y := by
  unfold curfewref06_cut_R curfewref06_cut_F
  refine MI.run ?_
  repeat' (first | intro _ | with_reducible constructor)
abbrev r43 (x : A43.den) (y : B43.den) : Prop := curfewref06_cut_R (x.1) (x.2) y
theorem curfewref06_cut_ok : FxOk Tryz.prog gsT 43 A43 B43 r43 := fo (c := q43_cx) rfl rfl (Fns_assoc ⟨b43, trivial⟩) (lp := q43_lp) (n := 60) (LpOk_tab ⟨q43_0_ok, trivial⟩) (enters Tryz.func43 (by kernel_rfl) rfl) (fun y => ⟨_, rfl⟩) fun x y h => Eq.mpr (q43_t _ _ y) (q43_r _ _ y h)
def e43 : Nat × Ent := (43, .fx A43 B43 r43)
noncomputable def c76 : Nat × Ent := (76, .body Tryz.f76)
theorem b76 {c : Cx} : EntOk Tryz.prog c 76 (.body Tryz.f76) := body_ent Tryz.func76 (by kernel_rfl) (by kernel_rfl)
abbrev A76 : RT := (.one (.int .i64))
abbrev B76 : RT := (.agg (.cons (.int .i64) (.one (.int .i64))))
noncomputable def q76_cx : Cx := ⟨tyT, [c76], gsT, eqT, false⟩
def curfewref06_Ends_F (i : Ip) (a0 : Int) (y : Int × Int) : Prop :=
  (i.rq (((decide (0 ≤ a0)) && (decide (a0 < 5))) && (Nat.ble (((Int.toNat a0) * 2) + 2) 10)) (((List.getD ([0, 59, 0, 23, 1, 31, 1, 12, 0, 6] : List Int) (((Int.toNat a0) * 2) + 0) 0), (List.getD ([0, 59, 0, 23, 1, 31, 1, 12, 0, 6] : List Int) (((Int.toNat a0) * 2) + 1) 0)) = y))
def curfewref06_Ends_R (a0 : Int) (y : Int × Int) : Prop :=
  (req (((decide (0 ≤ a0)) && (decide (a0 < 5))) && (Nat.ble (((Int.toNat a0) * 2) + 2) 10)) (((List.getD ([0, 59, 0, 23, 1, 31, 1, 12, 0, 6] : List Int) (((Int.toNat a0) * 2) + 0) 0), (List.getD ([0, 59, 0, 23, 1, 31, 1, 12, 0, 6] : List Int) (((Int.toNat a0) * 2) + 1) 0)) = y))
theorem q76_t (a0 : Int) (y : Int × Int) : acall q76_cx okT lpT 60 (.fn 76 [] []) [(vi a0)] [] (leafK B76 y) = curfewref06_Ends_F ipT a0 y := by kernel_rfl
theorem q76_r (a0 : Int) (y : Int × Int) : curfewref06_Ends_R a0 y → curfewref06_Ends_F ipT a0 y := by
  unfold curfewref06_Ends_R curfewref06_Ends_F
  refine MI.run ?_
  repeat' (first | intro _ | with_reducible constructor)
abbrev r76 (x : A76.den) (y : B76.den) : Prop := curfewref06_Ends_R x y
theorem curfewref06_Ends_ok : FxOk Tryz.prog gsT 76 A76 B76 r76 := fo (c := q76_cx) rfl rfl (Fns_assoc ⟨b76, trivial⟩) (n := 60) (lp_ok) (enters Tryz.func76 (by kernel_rfl) rfl) (fun y => ⟨_, rfl⟩) fun x y h => Eq.mpr (q76_t _ y) (q76_r _ y h)
def e76 : Nat × Ent := (76, .fx A76 B76 r76)
noncomputable def c77 : Nat × Ent := (77, .body Tryz.f77)
theorem b77 {c : Cx} : EntOk Tryz.prog c 77 (.body Tryz.f77) := body_ent Tryz.func77 (by kernel_rfl) (by kernel_rfl)
abbrev A77 : RT := (.one .str)
abbrev B77 : RT := (.tup (.cons (.int .i64) (.one .bool)))
noncomputable def q77_cx : Cx := ⟨tyT, [c77], gsT, eqT, false⟩
noncomputable def q77_0_body : Code := subC [1, 1, 1, 0, 1, 0, 0] (bodyOf Tryz.f77)
abbrev curfewref06_number_l0_Z : Type := ByteArray × Int × Int
abbrev curfewref06_number_l0_Y : Type := (Unit) ⊕ (Int)
noncomputable def q77_0_k : LK := ⟨0, ⟨[(0, .w 0), (4, .w 1), (5, .w 2)], [], []⟩, [.str, .int .i64, .int .i64], [], [], [], [⟨.ret, ⟨[(2, .li .i64 0), (3, .lb false)], [], []⟩, [], [], none⟩, ⟨(.exit 0), ⟨[(4, .w 0)], [], []⟩, [.int .i64], [], none⟩]⟩
def curfewref06_number_l0_F (i : Ip) (l : curfewref06_number_l0_Z → curfewref06_number_l0_Y → Prop) (z1x0 : ByteArray) (z1x1 z1x2 : Int) (y2_ : curfewref06_number_l0_Y) : Prop :=
  (br (decide (z1x2 < ((ByteArray.size z1x0 : Nat) : Int))) (i.rq ((decide (0 ≤ z1x2)) && (decide (z1x2 < ((ByteArray.size z1x0 : Nat) : Int)))) (br (decide ((((List.getD (Array.toList (ByteArray.data z1x0)) (Int.toNat z1x2) 0).toNat : Nat) : Int) < 48)) ((Sum.inl ()) = y2_) (i.rq ((decide (0 ≤ z1x2)) && (decide (z1x2 < ((ByteArray.size z1x0 : Nat) : Int)))) (br (decide ((((List.getD (Array.toList (ByteArray.data z1x0)) (Int.toNat z1x2) 0).toNat : Nat) : Int) > 57)) ((Sum.inl ()) = y2_) (i.rq ((decide (0 ≤ z1x2)) && (decide (z1x2 < ((ByteArray.size z1x0 : Nat) : Int)))) (l (z1x0, (IntKind.wrap .i64 ((IntKind.wrap .i64 (10 * z1x1)) + (IntKind.wrap .i64 (IntKind.wrap .u8 ((((List.getD (Array.toList (ByteArray.data z1x0)) (Int.toNat z1x2) 0).toNat : Nat) : Int) - 48))))), (IntKind.wrap .i64 (z1x2 + 1))) y2_)))))) ((Sum.inr z1x1) = y2_))
def curfewref06_number_l0 : Nat → curfewref06_number_l0_Z → curfewref06_number_l0_Y → Prop
  | 0, _, _ => False
  | k + 1, (z1x0, z1x1, z1x2), y2_ => (br (decide (z1x2 < ((ByteArray.size z1x0 : Nat) : Int))) (req ((decide (0 ≤ z1x2)) && (decide (z1x2 < ((ByteArray.size z1x0 : Nat) : Int)))) (br (decide ((((List.getD (Array.toList (ByteArray.data z1x0)) (Int.toNat z1x2) 0).toNat : Nat) : Int) < 48)) ((Sum.inl ()) = y2_) (req ((decide (0 ≤ z1x2)) && (decide (z1x2 < ((ByteArray.size z1x0 : Nat) : Int)))) (br (decide ((((List.getD (Array.toList (ByteArray.data z1x0)) (Int.toNat z1x2) 0).toNat : Nat) : Int) > 57)) ((Sum.inl ()) = y2_) (req ((decide (0 ≤ z1x2)) && (decide (z1x2 < ((ByteArray.size z1x0 : Nat) : Int)))) (curfewref06_number_l0 k (z1x0, (IntKind.wrap .i64 ((IntKind.wrap .i64 (10 * z1x1)) + (IntKind.wrap .i64 (IntKind.wrap .u8 ((((List.getD (Array.toList (ByteArray.data z1x0)) (Int.toNat z1x2) 0).toNat : Nat) : Int) - 48))))), (IntKind.wrap .i64 (z1x2 + 1))) y2_)))))) ((Sum.inr z1x1) = y2_))
def curfewref06_number_l0_L (z : curfewref06_number_l0_Z) (y : curfewref06_number_l0_Y) : Prop := ∃ k, curfewref06_number_l0 k z y
noncomputable def q77_0_lp : Lp := .auto none q77_0_body (loopK q77_0_k fun z y => ∃ k, curfewref06_number_l0 k z y)
noncomputable def q77_lp : Nat → FuncId → Nat → Nat → Lp := lpTab [(77, 5, 0, 0, q77_0_lp)]
theorem q77_0_t (n k : Nat) (z1x0 : ByteArray) (z1x1 z1x2 : Int) (y2_ : curfewref06_number_l0_Y) : rnd q77_cx okT q77_lp (n + 0) 77 none q77_0_body q77_0_k (curfewref06_number_l0 k) (z1x0, z1x1, z1x2) () () y2_ = curfewref06_number_l0_F ipT (fun z y => curfewref06_number_l0 k z y) z1x0 z1x1 z1x2 y2_ := by kernel_rfl
theorem q77_0_r (k : Nat) (z1x0 : ByteArray) (z1x1 z1x2 : Int) (y2_ : curfewref06_number_l0_Y) : curfewref06_number_l0 (k + 1) (z1x0, z1x1, z1x2) y2_ → curfewref06_number_l0_F ipT (fun z y => curfewref06_number_l0 k z y) z1x0 z1x1 z1x2 y2_ := by
  unfold curfewref06_number_l0_F
  intro h; simp only [curfewref06_number_l0] at h; revert h
  refine MI.run ?_
  repeat' (first | intro _ | with_reducible constructor)
theorem q77_0_ok (n : Nat) : Owed q77_cx okT 77 q77_lp (n + 0) q77_0_lp := owed_rnd (lk := q77_0_k) (l := curfewref06_number_l0) (fun z y h => h) fun k z q c y h => Eq.mpr (q77_0_t n k z.1 z.2.1 z.2.2 y) (q77_0_r k z.1 z.2.1 z.2.2 y h)
def curfewref06_number_F (i : Ip) (a0 : ByteArray) (y : Int × Bool) : Prop :=
  (br (ByteArray.toList a0 == ByteArray.toList (⟨#[]⟩ : ByteArray)) ((0, false) = y) (br (decide (((ByteArray.size a0 : Nat) : Int) > 3)) ((0, false) = y) (br (decide (((ByteArray.size a0 : Nat) : Int) > 1)) (i.r2 (decide (0 < ((ByteArray.size a0 : Nat) : Int))) (true && (decide (0 < ((ByteArray.size a0 : Nat) : Int)))) (fun q => (band rfl q)) (br ((((List.getD (Array.toList (ByteArray.data a0)) 0 0).toNat : Nat) : Int) == 48) ((0, false) = y) (i.lo none q77_0_body (∃ y4 : curfewref06_number_l0_Y, curfewref06_number_l0_L (a0, 0, 0) y4 ∧ sume (fun y4 => ((0, false) = y)) (fun y4 => ((y4, true) = y)) y4)))) (i.lo none q77_0_body (∃ y6 : curfewref06_number_l0_Y, curfewref06_number_l0_L (a0, 0, 0) y6 ∧ sume (fun y6 => ((0, false) = y)) (fun y6 => ((y6, true) = y)) y6)))))
def curfewref06_number_R (a0 : ByteArray) (y : Int × Bool) : Prop :=
  (br (ByteArray.toList a0 == ByteArray.toList (⟨#[]⟩ : ByteArray)) ((0, false) = y) (br (decide (((ByteArray.size a0 : Nat) : Int) > 3)) ((0, false) = y) (br (decide (((ByteArray.size a0 : Nat) : Int) > 1)) (req (decide (0 < ((ByteArray.size a0 : Nat) : Int))) (br ((((List.getD (Array.toList (ByteArray.data a0)) 0 0).toNat : Nat) : Int) == 48) ((0, false) = y) (∃ y4 : curfewref06_number_l0_Y, curfewref06_number_l0_L (a0, 0, 0) y4 ∧ sume (fun y4 => ((0, false) = y)) (fun y4 => ((y4, true) = y)) y4))) (∃ y6 : curfewref06_number_l0_Y, curfewref06_number_l0_L (a0, 0, 0) y6 ∧ sume (fun y6 => ((0, false) = y)) (fun y6 => ((y6, true) = y)) y6))))
theorem q77_t (a0 : ByteArray) (y : Int × Bool) : acall q77_cx okT q77_lp 60 (.fn 77 [] []) [(V.str a0)] [] (leafK B77 y) = curfewref06_number_F ipT a0 y := by kernel_rfl
theorem q77_r (a0 : ByteArray) (y : Int × Bool) : curfewref06_number_R a0 y → curfewref06_number_F ipT a0 y := by
  unfold curfewref06_number_R curfewref06_number_F
  refine MI.run ?_
  repeat' (first | intro _ | with_reducible constructor)
abbrev r77 (x : A77.den) (y : B77.den) : Prop := curfewref06_number_R x y
theorem curfewref06_number_ok : FxOk Tryz.prog gsT 77 A77 B77 r77 := fo (c := q77_cx) rfl rfl (Fns_assoc ⟨b77, trivial⟩) (lp := q77_lp) (n := 60) (LpOk_tab ⟨q77_0_ok, trivial⟩) (enters Tryz.func77 (by kernel_rfl) rfl) (fun y => ⟨_, rfl⟩) fun x y h => Eq.mpr (q77_t _ y) (q77_r _ y h)
def e77 : Nat × Ent := (77, .fx A77 B77 r77)
noncomputable def c103 : Nat × Ent := (103, .body Tryz.f103)
theorem b103 {c : Cx} : EntOk Tryz.prog c 103 (.body Tryz.f103) := body_ent Tryz.func103 (by kernel_rfl) (by kernel_rfl)
abbrev A103 : RT := (.one (.int .i64))
abbrev B103 : RT := (.sl .str)
noncomputable def q103_cx : Cx := ⟨tyT, [c103], gsT, eqT, false⟩
def curfewref06_names_R (a0 : Int) (y : List ByteArray) : Prop :=
  (br (a0 == 3) ([(⟨#[74, 65, 78]⟩ : ByteArray), (⟨#[70, 69, 66]⟩ : ByteArray), (⟨#[77, 65, 82]⟩ : ByteArray), (⟨#[65, 80, 82]⟩ : ByteArray), (⟨#[77, 65, 89]⟩ : ByteArray), (⟨#[74, 85, 78]⟩ : ByteArray), (⟨#[74, 85, 76]⟩ : ByteArray), (⟨#[65, 85, 71]⟩ : ByteArray), (⟨#[83, 69, 80]⟩ : ByteArray), (⟨#[79, 67, 84]⟩ : ByteArray), (⟨#[78, 79, 86]⟩ : ByteArray), (⟨#[68, 69, 67]⟩ : ByteArray)] = y) (br (a0 == 4) ([(⟨#[83, 85, 78]⟩ : ByteArray), (⟨#[77, 79, 78]⟩ : ByteArray), (⟨#[84, 85, 69]⟩ : ByteArray), (⟨#[87, 69, 68]⟩ : ByteArray), (⟨#[84, 72, 85]⟩ : ByteArray), (⟨#[70, 82, 73]⟩ : ByteArray), (⟨#[83, 65, 84]⟩ : ByteArray)] = y) ([] = y)))
theorem q103_t (a0 : Int) (y : List ByteArray) : acall q103_cx okT lpT 60 (.fn 103 [] []) [(vi a0)] [] (leafK B103 y) = curfewref06_names_R a0 y := by kernel_rfl
abbrev r103 (x : A103.den) (y : B103.den) : Prop := curfewref06_names_R x y
theorem curfewref06_names_ok : FxOk Tryz.prog gsT 103 A103 B103 r103 := fo (c := q103_cx) rfl rfl (Fns_assoc ⟨b103, trivial⟩) (n := 60) (lp_ok) (enters Tryz.func103 (by kernel_rfl) rfl) (fun y => ⟨_, rfl⟩) fun x y h => Eq.mpr (q103_t _ y) h
def e103 : Nat × Ent := (103, .fx A103 B103 r103)
noncomputable def c78 : Nat × Ent := (78, .body Tryz.f78)
theorem b78 {c : Cx} : EntOk Tryz.prog c 78 (.body Tryz.f78) := body_ent Tryz.func78 (by kernel_rfl) (by kernel_rfl)
abbrev A78 : RT := (.cons (.int .i64) (.one .str))
abbrev B78 : RT := (.tup (.cons (.int .i64) (.one .bool)))
noncomputable def q78_cx : Cx := ⟨tyT, [e76, e77, c78, e103, e104], gsT, eqT, false⟩
noncomputable def q78_0_body : Code := subC [1, 1, 0, 1, 0, 0] (bodyOf Tryz.f78)
abbrev curfewref06_Value_l0_Z : Type := Int × Int × Int × ByteArray × List ByteArray × Int × Int
abbrev curfewref06_Value_l0_Y : Type := (Int) ⊕ (Unit)
noncomputable def q78_0_k : LK := ⟨1, ⟨[(0, .w 2), (1, .w 3), (6, .ptr 0 0), (14, .sl .str 4), (15, .w 5), (16, .w 6)], [.cells [.w 0, .w 1]], []⟩, [.int .i64, .int .i64, .int .i64, .str, .sl .str, .int .i64, .int .i64], [], [], [0, 1, 2, 3], [⟨.ret, ⟨[(4, .w 0), (5, .lb true)], [.dead], []⟩, [.int .i64], [], none⟩, ⟨(.exit 0), ⟨[(0, .e (.p 2)), (1, .e (.p 3)), (6, .ptr 0 0)], [.cells [.e (.p 0), .e (.p 1)]], []⟩, [], [], none⟩]⟩
def curfewref06_Value_l0_F (i : Ip) (l : curfewref06_Value_l0_Z → curfewref06_Value_l0_Y → Prop) (z3x0 z3x1 z3x2 : Int) (z3x3 : ByteArray) (z3x4 : List ByteArray) (z3x5 z3x6 : Int) (y4_ : curfewref06_Value_l0_Y) : Prop :=
  (br (decide (z3x6 < z3x5)) (i.rq ((decide (0 ≤ z3x6)) && (decide (z3x6 < (((List.length z3x4) : Nat) : Int)))) (∃ y5 : ByteArray, (curfewref06_upper_R z3x3 y5) ∧ (br (ByteArray.toList y5 == ByteArray.toList (List.getD z3x4 (Int.toNat z3x6) (⟨#[]⟩ : ByteArray))) ((Sum.inl (IntKind.wrap .i64 (z3x0 + z3x6))) = y4_) (i.tq [(vi z3x0), (vi z3x1), (vi z3x2), (V.str z3x3)] (l (z3x0, z3x1, z3x2, z3x3, z3x4, z3x5, (IntKind.wrap .i64 (z3x6 + 1))) y4_))))) (i.te [(vi z3x0), (vi z3x1), (vi z3x2), (V.str z3x3)] [] ((Sum.inr ()) = y4_)))
def curfewref06_Value_l0 : Nat → curfewref06_Value_l0_Z → curfewref06_Value_l0_Y → Prop
  | 0, _, _ => False
  | k + 1, (z3x0, z3x1, z3x2, z3x3, z3x4, z3x5, z3x6), y4_ => (br (decide (z3x6 < z3x5)) (req ((decide (0 ≤ z3x6)) && (decide (z3x6 < (((List.length z3x4) : Nat) : Int)))) (∃ y5 : ByteArray, (curfewref06_upper_R z3x3 y5) ∧ (br (ByteArray.toList y5 == ByteArray.toList (List.getD z3x4 (Int.toNat z3x6) (⟨#[]⟩ : ByteArray))) ((Sum.inl (IntKind.wrap .i64 (z3x0 + z3x6))) = y4_) (curfewref06_Value_l0 k (z3x0, z3x1, z3x2, z3x3, z3x4, z3x5, (IntKind.wrap .i64 (z3x6 + 1))) y4_)))) ((Sum.inr ()) = y4_))
def curfewref06_Value_l0_L (z : curfewref06_Value_l0_Z) (y : curfewref06_Value_l0_Y) : Prop := ∃ k, curfewref06_Value_l0 k z y
noncomputable def q78_0_lp : Lp := .auto none q78_0_body (loopK q78_0_k fun z y => ∃ k, curfewref06_Value_l0 k z y)
noncomputable def q78_lp : Nat → FuncId → Nat → Nat → Lp := lpTab [(78, 3, 1, 1, q78_0_lp)]
theorem q78_0_t (n k : Nat) (z3x0 z3x1 z3x2 : Int) (z3x3 : ByteArray) (z3x4 : List ByteArray) (z3x5 z3x6 : Int) (y4_ : curfewref06_Value_l0_Y) : rnd q78_cx okT q78_lp (n + 1) 78 none q78_0_body q78_0_k (curfewref06_Value_l0 k) (z3x0, z3x1, z3x2, z3x3, z3x4, z3x5, z3x6) () () y4_ = curfewref06_Value_l0_F ipT (fun z y => curfewref06_Value_l0 k z y) z3x0 z3x1 z3x2 z3x3 z3x4 z3x5 z3x6 y4_ := by kernel_rfl
theorem q78_0_r (k : Nat) (z3x0 z3x1 z3x2 : Int) (z3x3 : ByteArray) (z3x4 : List ByteArray) (z3x5 z3x6 : Int) (y4_ : curfewref06_Value_l0_Y) : curfewref06_Value_l0 (k + 1) (z3x0, z3x1, z3x2, z3x3, z3x4, z3x5, z3x6) y4_ → curfewref06_Value_l0_F ipT (fun z y => curfewref06_Value_l0 k z y) z3x0 z3x1 z3x2 z3x3 z3x4 z3x5 z3x6 y4_ := by
  unfold curfewref06_Value_l0_F
  intro h; simp only [curfewref06_Value_l0] at h; revert h
  refine MI.run ?_
  repeat' (first | intro _ | with_reducible constructor)
theorem q78_0_ok (n : Nat) : Owed q78_cx okT 78 q78_lp (n + 1) q78_0_lp := owed_rnd (lk := q78_0_k) (l := curfewref06_Value_l0) (fun z y h => h) fun k z q c y h => Eq.mpr (q78_0_t n k z.1 z.2.1 z.2.2.1 z.2.2.2.1 z.2.2.2.2.1 z.2.2.2.2.2.1 z.2.2.2.2.2.2 y) (q78_0_r k z.1 z.2.1 z.2.2.1 z.2.2.2.1 z.2.2.2.2.1 z.2.2.2.2.2.1 z.2.2.2.2.2.2 y h)
def curfewref06_Value_F (i : Ip) (a0 : Int) (a1 : ByteArray) (y : Int × Bool) : Prop :=
  (∃ y1 : Int × Int, (curfewref06_Ends_R a0 y1) ∧ (∃ y2 : List ByteArray, (curfewref06_names_R a0 y2) ∧ (i.lo none q78_0_body (∃ y7 : curfewref06_Value_l0_Y, curfewref06_Value_l0_L ((y1.1), (y1.2), a0, a1, y2, (((List.length y2) : Nat) : Int), 0) y7 ∧ sume (fun y7 => ((y7, true) = y)) (fun y7 => (br (a0 == 4) (∃ y8 : Int × Bool, (curfewref06_number_R a1 y8) ∧ (br (!(y8.2)) ((0, false) = y) (br (decide ((y8.1) < (y1.1))) ((0, false) = y) (br (decide ((y8.1) > 7)) ((0, false) = y) (((y8.1), true) = y))))) (∃ y9 : Int × Bool, (curfewref06_number_R a1 y9) ∧ (br (!(y9.2)) ((0, false) = y) (br (decide ((y9.1) < (y1.1))) ((0, false) = y) (br (decide ((y9.1) > (y1.2))) ((0, false) = y) (((y9.1), true) = y))))))) y7))))
def curfewref06_Value_R (a0 : Int) (a1 : ByteArray) (y : Int × Bool) : Prop :=
  (∃ y1 : Int × Int, (curfewref06_Ends_R a0 y1) ∧ (∃ y2 : List ByteArray, (curfewref06_names_R a0 y2) ∧ (∃ y7 : curfewref06_Value_l0_Y, curfewref06_Value_l0_L ((y1.1), (y1.2), a0, a1, y2, (((List.length y2) : Nat) : Int), 0) y7 ∧ sume (fun y7 => ((y7, true) = y)) (fun y7 => (br (a0 == 4) (∃ y8 : Int × Bool, (curfewref06_number_R a1 y8) ∧ (br (!(y8.2)) ((0, false) = y) (br (decide ((y8.1) < (y1.1))) ((0, false) = y) (br (decide ((y8.1) > 7)) ((0, false) = y) (((y8.1), true) = y))))) (∃ y9 : Int × Bool, (curfewref06_number_R a1 y9) ∧ (br (!(y9.2)) ((0, false) = y) (br (decide ((y9.1) < (y1.1))) ((0, false) = y) (br (decide ((y9.1) > (y1.2))) ((0, false) = y) (((y9.1), true) = y))))))) y7)))
theorem q78_t (a0 : Int) (a1 : ByteArray) (y : Int × Bool) : acall q78_cx okT q78_lp 60 (.fn 78 [] []) [(vi a0), (V.str a1)] [] (leafK B78 y) = curfewref06_Value_F ipT a0 a1 y := by kernel_rfl
theorem q78_r (a0 : Int) (a1 : ByteArray) (y : Int × Bool) : curfewref06_Value_R a0 a1 y → curfewref06_Value_F ipT a0 a1 y := by
  unfold curfewref06_Value_R curfewref06_Value_F
  refine MI.run ?_
  repeat' (first | intro _ | with_reducible constructor)
abbrev r78 (x : A78.den) (y : B78.den) : Prop := curfewref06_Value_R (x.1) (x.2) y
theorem curfewref06_Value_ok : FxOk Tryz.prog gsT 78 A78 B78 r78 := fo (c := q78_cx) rfl rfl (Fns_assoc ⟨curfewref06_Ends_ok, curfewref06_number_ok, b78, curfewref06_names_ok, curfewref06_upper_ok, trivial⟩) (lp := q78_lp) (n := 60) (LpOk_tab ⟨q78_0_ok, trivial⟩) (enters Tryz.func78 (by kernel_rfl) rfl) (fun y => ⟨_, rfl⟩) fun x y h => Eq.mpr (q78_t _ _ y) (q78_r _ _ y h)
def e78 : Nat × Ent := (78, .fx A78 B78 r78)
noncomputable def c105 : Nat × Ent := (105, .body Tryz.f105)
theorem b105 {c : Cx} : EntOk Tryz.prog c 105 (.body Tryz.f105) := body_ent Tryz.func105 (by kernel_rfl) (by kernel_rfl)
abbrev A105 : RT := (.one (.int .i64))
abbrev B105 : RT := (.int .u64)
noncomputable def q105_cx : Cx := ⟨tyT, [c105], gsT, eqT, false⟩
noncomputable def q105_0_body : Code := subC [1, 1, 0, 1, 0, 0] (bodyOf Tryz.f105)
abbrev curfewref01_power_l0_Z : Type := Int × Int × Int
abbrev curfewref01_power_l0_Y : Type := Int
noncomputable def q105_0_k : LK := ⟨0, ⟨[(3, .w 0), (4, .w 1), (5, .w 2)], [], []⟩, [.int .u64, .int .i64, .int .i64], [], [], [], [⟨(.exit 0), ⟨[(3, .w 0)], [], []⟩, [.int .u64], [], none⟩]⟩
def curfewref01_power_l0 : Nat → curfewref01_power_l0_Z → curfewref01_power_l0_Y → Prop
  | 0, _, _ => False
  | k + 1, (z1x0, z1x1, z1x2), y2_ => (br (decide (z1x2 < z1x1)) (curfewref01_power_l0 k ((IntKind.wrap .u64 (z1x0 * 2)), z1x1, (IntKind.wrap .i64 (z1x2 + 1))) y2_) (z1x0 = y2_))
def curfewref01_power_l0_L (z : curfewref01_power_l0_Z) (y : curfewref01_power_l0_Y) : Prop := ∃ k, curfewref01_power_l0 k z y
noncomputable def q105_0_lp : Lp := .auto none q105_0_body (loopK q105_0_k fun z y => ∃ k, curfewref01_power_l0 k z y)
noncomputable def q105_lp : Nat → FuncId → Nat → Nat → Lp := lpTab [(105, 3, 0, 0, q105_0_lp)]
theorem q105_0_t (n k : Nat) (z1x0 z1x1 z1x2 : Int) (y2_ : curfewref01_power_l0_Y) : rnd q105_cx okT q105_lp (n + 0) 105 none q105_0_body q105_0_k (curfewref01_power_l0 k) (z1x0, z1x1, z1x2) () () y2_ = curfewref01_power_l0 (k + 1) (z1x0, z1x1, z1x2) y2_ := by kernel_rfl
theorem q105_0_ok (n : Nat) : Owed q105_cx okT 105 q105_lp (n + 0) q105_0_lp := owed_rnd (lk := q105_0_k) (l := curfewref01_power_l0) (fun z y h => h) fun k z q c y h => Eq.mpr (q105_0_t n k z.1 z.2.1 z.2.2 y) h
def curfewref01_power_F (i : Ip) (a0 : Int) (y : Int) : Prop :=
  (i.lo none q105_0_body (∃ y4 : curfewref01_power_l0_Y, curfewref01_power_l0_L (1, a0, 0) y4 ∧ (y4 = y)))
def curfewref01_power_R (a0 : Int) (y : Int) : Prop :=
  (∃ y4 : curfewref01_power_l0_Y, curfewref01_power_l0_L (1, a0, 0) y4 ∧ (y4 = y))
theorem q105_t (a0 : Int) (y : Int) : acall q105_cx okT q105_lp 60 (.fn 105 [] []) [(vi a0)] [] (leafK B105 y) = curfewref01_power_F ipT a0 y := by kernel_rfl
theorem q105_r (a0 : Int) (y : Int) : curfewref01_power_R a0 y → curfewref01_power_F ipT a0 y := by
  unfold curfewref01_power_R curfewref01_power_F
  refine MI.run ?_
  repeat' (first | intro _ | with_reducible constructor)
abbrev r105 (x : A105.den) (y : B105.den) : Prop := curfewref01_power_R x y
theorem curfewref01_power_ok : FxOk Tryz.prog gsT 105 A105 B105 r105 := fo (c := q105_cx) rfl rfl (Fns_assoc ⟨b105, trivial⟩) (lp := q105_lp) (n := 60) (LpOk_tab ⟨q105_0_ok, trivial⟩) (enters Tryz.func105 (by kernel_rfl) rfl) (fun y => ⟨_, rfl⟩) fun x y h => Eq.mpr (q105_t _ y) (q105_r _ y h)
def e105 : Nat × Ent := (105, .fx A105 B105 r105)
noncomputable def c80 : Nat × Ent := (80, .body Tryz.f80)
theorem b80 {c : Cx} : EntOk Tryz.prog c 80 (.body Tryz.f80) := body_ent Tryz.func80 (by kernel_rfl) (by kernel_rfl)
abbrev A80 : RT := (.cons (.int .u64) (.one (.int .i64)))
abbrev B80 : RT := .bool
noncomputable def q80_cx : Cx := ⟨tyT, [c80, e105], gsT, eqT, false⟩
def curfewref01_Has_F (i : Ip) (a0 a1 : Int) (y : Bool) : Prop :=
  (br (decide (a1 ≥ 0)) (br (decide (a1 ≤ 63)) (∃ y1 : Int, (curfewref01_power_R a1 y1) ∧ (i.rq (!(y1 == 0)) (((Int.tmod (IntKind.wrap .u64 (Int.tdiv a0 y1)) 2) == 1) = y))) (false = y)) (false = y))
def curfewref01_Has_R (a0 a1 : Int) (y : Bool) : Prop :=
  (br (decide (a1 ≥ 0)) (br (decide (a1 ≤ 63)) (∃ y1 : Int, (curfewref01_power_R a1 y1) ∧ (req (!(y1 == 0)) (((Int.tmod (IntKind.wrap .u64 (Int.tdiv a0 y1)) 2) == 1) = y))) (false = y)) (false = y))
theorem q80_t (a0 a1 : Int) (y : Bool) : acall q80_cx okT lpT 60 (.fn 80 [] []) [(vu a0), (vi a1)] [] (leafK B80 y) = curfewref01_Has_F ipT a0 a1 y := by kernel_rfl
theorem q80_r (a0 a1 : Int) (y : Bool) : curfewref01_Has_R a0 a1 y → curfewref01_Has_F ipT a0 a1 y := by
  unfold curfewref01_Has_R curfewref01_Has_F
  refine MI.run ?_
  repeat' (first | intro _ | with_reducible constructor)
abbrev r80 (x : A80.den) (y : B80.den) : Prop := curfewref01_Has_R (x.1) (x.2) y
theorem curfewref01_Has_ok : FxOk Tryz.prog gsT 80 A80 B80 r80 := fo (c := q80_cx) rfl rfl (Fns_assoc ⟨b80, curfewref01_power_ok, trivial⟩) (n := 60) (lp_ok) (enters Tryz.func80 (by kernel_rfl) rfl) (fun y => ⟨_, rfl⟩) fun x y h => Eq.mpr (q80_t _ _ y) (q80_r _ _ y h)
def e80 : Nat × Ent := (80, .fx A80 B80 r80)
noncomputable def c81 : Nat × Ent := (81, .body Tryz.f81)
theorem b81 {c : Cx} : EntOk Tryz.prog c 81 (.body Tryz.f81) := body_ent Tryz.func81 (by kernel_rfl) (by kernel_rfl)
abbrev A81 : RT := (.one (.sl (.int .i64)))
abbrev B81 : RT := (.tup (.cons (.int .u64) (.one .bool)))
noncomputable def q81_cx : Cx := ⟨tyT, [e80, c81, e105], gsT, eqT, false⟩
noncomputable def q81_0_body : Code := subC [1, 1, 0, 1, 0, 0] (bodyOf Tryz.f81)
abbrev curfewref01_Of_l0_Z : Type := Int × List Int × Int × Int
abbrev curfewref01_Of_l0_Y : Type := (Unit) ⊕ (Int)
noncomputable def q81_0_k : LK := ⟨0, ⟨[(4, .w 0), (7, .sl (.int .i64) 1), (8, .w 2), (9, .w 3)], [], []⟩, [.int .u64, .sl (.int .i64), .int .i64, .int .i64], [], [], [], [⟨.ret, ⟨[(2, .li .u64 0), (3, .lb false)], [], []⟩, [], [], none⟩, ⟨(.exit 0), ⟨[(4, .w 0)], [], []⟩, [.int .u64], [], none⟩]⟩
def curfewref01_Of_l0_F (i : Ip) (l : curfewref01_Of_l0_Z → curfewref01_Of_l0_Y → Prop) (z1x0 : Int) (z1x1 : List Int) (z1x2 z1x3 : Int) (y2_ : curfewref01_Of_l0_Y) : Prop :=
  (br (decide (z1x3 < z1x2)) (i.rq ((decide (0 ≤ z1x3)) && (decide (z1x3 < (((List.length z1x1) : Nat) : Int)))) (br (decide ((List.getD z1x1 (Int.toNat z1x3) 0) < 0)) ((Sum.inl ()) = y2_) (br (decide ((List.getD z1x1 (Int.toNat z1x3) 0) > 63)) ((Sum.inl ()) = y2_) (∃ y3 : Bool, (curfewref01_Has_R z1x0 (List.getD z1x1 (Int.toNat z1x3) 0) y3) ∧ (br (!y3) (∃ y4 : Int, (curfewref01_power_R (List.getD z1x1 (Int.toNat z1x3) 0) y4) ∧ (l ((IntKind.wrap .u64 (z1x0 + y4)), z1x1, z1x2, (IntKind.wrap .i64 (z1x3 + 1))) y2_)) (l (z1x0, z1x1, z1x2, (IntKind.wrap .i64 (z1x3 + 1))) y2_)))))) ((Sum.inr z1x0) = y2_))
def curfewref01_Of_l0 : Nat → curfewref01_Of_l0_Z → curfewref01_Of_l0_Y → Prop
  | 0, _, _ => False
  | k + 1, (z1x0, z1x1, z1x2, z1x3), y2_ => (br (decide (z1x3 < z1x2)) (req ((decide (0 ≤ z1x3)) && (decide (z1x3 < (((List.length z1x1) : Nat) : Int)))) (br (decide ((List.getD z1x1 (Int.toNat z1x3) 0) < 0)) ((Sum.inl ()) = y2_) (br (decide ((List.getD z1x1 (Int.toNat z1x3) 0) > 63)) ((Sum.inl ()) = y2_) (∃ y3 : Bool, (curfewref01_Has_R z1x0 (List.getD z1x1 (Int.toNat z1x3) 0) y3) ∧ (br (!y3) (∃ y4 : Int, (curfewref01_power_R (List.getD z1x1 (Int.toNat z1x3) 0) y4) ∧ (curfewref01_Of_l0 k ((IntKind.wrap .u64 (z1x0 + y4)), z1x1, z1x2, (IntKind.wrap .i64 (z1x3 + 1))) y2_)) (curfewref01_Of_l0 k (z1x0, z1x1, z1x2, (IntKind.wrap .i64 (z1x3 + 1))) y2_)))))) ((Sum.inr z1x0) = y2_))
def curfewref01_Of_l0_L (z : curfewref01_Of_l0_Z) (y : curfewref01_Of_l0_Y) : Prop := ∃ k, curfewref01_Of_l0 k z y
noncomputable def q81_0_lp : Lp := .auto none q81_0_body (loopK q81_0_k fun z y => ∃ k, curfewref01_Of_l0 k z y)
noncomputable def q81_lp : Nat → FuncId → Nat → Nat → Lp := lpTab [(81, 3, 0, 1, q81_0_lp)]
theorem q81_0_t (n k : Nat) (z1x0 : Int) (z1x1 : List Int) (z1x2 z1x3 : Int) (y2_ : curfewref01_Of_l0_Y) : rnd q81_cx okT q81_lp (n + 1) 81 none q81_0_body q81_0_k (curfewref01_Of_l0 k) (z1x0, z1x1, z1x2, z1x3) () () y2_ = curfewref01_Of_l0_F ipT (fun z y => curfewref01_Of_l0 k z y) z1x0 z1x1 z1x2 z1x3 y2_ := by kernel_rfl
theorem q81_0_r (k : Nat) (z1x0 : Int) (z1x1 : List Int) (z1x2 z1x3 : Int) (y2_ : curfewref01_Of_l0_Y) : curfewref01_Of_l0 (k + 1) (z1x0, z1x1, z1x2, z1x3) y2_ → curfewref01_Of_l0_F ipT (fun z y => curfewref01_Of_l0 k z y) z1x0 z1x1 z1x2 z1x3 y2_ := by
  unfold curfewref01_Of_l0_F
  intro h; simp only [curfewref01_Of_l0] at h; revert h
  refine MI.run ?_
  repeat' (first | intro _ | with_reducible constructor)
theorem q81_0_ok (n : Nat) : Owed q81_cx okT 81 q81_lp (n + 1) q81_0_lp := owed_rnd (lk := q81_0_k) (l := curfewref01_Of_l0) (fun z y h => h) fun k z q c y h => Eq.mpr (q81_0_t n k z.1 z.2.1 z.2.2.1 z.2.2.2 y) (q81_0_r k z.1 z.2.1 z.2.2.1 z.2.2.2 y h)
def curfewref01_Of_F (i : Ip) (a0 : List Int) (y : Int × Bool) : Prop :=
  (i.lo none q81_0_body (∃ y6 : curfewref01_Of_l0_Y, curfewref01_Of_l0_L (0, a0, (((List.length a0) : Nat) : Int), 0) y6 ∧ sume (fun y6 => ((0, false) = y)) (fun y6 => ((y6, true) = y)) y6))
def curfewref01_Of_R (a0 : List Int) (y : Int × Bool) : Prop :=
  (∃ y6 : curfewref01_Of_l0_Y, curfewref01_Of_l0_L (0, a0, (((List.length a0) : Nat) : Int), 0) y6 ∧ sume (fun y6 => ((0, false) = y)) (fun y6 => ((y6, true) = y)) y6)
theorem q81_t (a0 : List Int) (y : Int × Bool) : acall q81_cx okT q81_lp 60 (.fn 81 [] []) [(V.sl (.int .i64) a0 none)] [] (leafK B81 y) = curfewref01_Of_F ipT a0 y := by kernel_rfl
theorem q81_r (a0 : List Int) (y : Int × Bool) : curfewref01_Of_R a0 y → curfewref01_Of_F ipT a0 y := by
  unfold curfewref01_Of_R curfewref01_Of_F
  refine MI.run ?_
  repeat' (first | intro _ | with_reducible constructor)
abbrev r81 (x : A81.den) (y : B81.den) : Prop := curfewref01_Of_R x y
theorem curfewref01_Of_ok : FxOk Tryz.prog gsT 81 A81 B81 r81 := fo (c := q81_cx) rfl rfl (Fns_assoc ⟨curfewref01_Has_ok, b81, curfewref01_power_ok, trivial⟩) (lp := q81_lp) (n := 60) (LpOk_tab ⟨q81_0_ok, trivial⟩) (enters Tryz.func81 (by kernel_rfl) rfl) (fun y => ⟨_, rfl⟩) fun x y h => Eq.mpr (q81_t _ y) (q81_r _ y h)
def e81 : Nat × Ent := (81, .fx A81 B81 r81)
noncomputable def c79 : Nat × Ent := (79, .body Tryz.f79)
theorem b79 {c : Cx} : EntOk Tryz.prog c 79 (.body Tryz.f79) := body_ent Tryz.func79 (by kernel_rfl) (by kernel_rfl)
abbrev A79 : RT := (.cons (.int .i64) (.cons (.int .i64) (.one (.int .i64))))
abbrev B79 : RT := (.tup (.cons (.int .u64) (.one .bool)))
noncomputable def q79_cx : Cx := ⟨tyT, [c79, e81], gsT, eqT, false⟩
noncomputable def q79_0_body : Code := subC [1, 1, 1, 0, 1, 0, 0] (bodyOf Tryz.f79)
abbrev curfewref01_Span_l0_Z : Type := List Int × Int × Int × Int × Int
abbrev curfewref01_Span_l0_Y : Type := List Int
noncomputable def q79_0_k : LK := ⟨0, ⟨[(0, .w 1), (1, .w 2), (2, .w 3), (8, .row 0 1 (.z 0) (.c 0)), (9, .w 4)], [.row (.int .i64) (.z 0) 3 (.c 0)], []⟩, [.sl (.int .i64), .int .i64, .int .i64, .int .i64, .int .i64], [], [.nat], [], [⟨(.exit 0), ⟨[(8, .row 0 1 (.z 0) (.c 0))], [.row (.int .i64) (.z 0) 3 (.c 0)], []⟩, [.sl (.int .i64)], [.nat], none⟩]⟩
def curfewref01_Span_l0_F (i : Ip) (l : curfewref01_Span_l0_Z → curfewref01_Span_l0_Y → Prop) (z1x0 : List Int) (z1x1 z1x2 z1x3 z1x4 : Int) (z1k0 : Nat) (y2_ : curfewref01_Span_l0_Y) : Prop :=
  (br (decide (z1x4 ≤ z1x2)) (i.rq (!(z1x3 == 0)) (br ((Int.tmod (IntKind.wrap .i64 (z1x4 - z1x1)) z1x3) == 0) (i.r2 (Nat.ble ((List.length (z1x0 ++ [z1x4])) * 9) 140737488355328) (((((true && true) && true) && (Nat.beq (List.length z1x0) (List.length z1x0))) && (Nat.beq z1k0 z1k0)) && (Nat.ble ((List.length (z1x0 ++ [z1x4])) * 9) 140737488355328)) (fun q => (band (band (band (band (band rfl rfl) rfl) (Nat.beq_refl _)) (Nat.beq_refl _)) q)) (i.cp (List.length (z1x0 ++ [z1x4])) fun c3 hc3 => (i.te [(V.row 0 1 (List.length (z1x0 ++ [z1x4])) c3)] [] (l ((z1x0 ++ [z1x4]), z1x1, z1x2, z1x3, (IntKind.wrap .i64 (z1x4 + 1))) y2_)))) (i.te [(V.row 0 1 (List.length z1x0) z1k0)] [] (l (z1x0, z1x1, z1x2, z1x3, (IntKind.wrap .i64 (z1x4 + 1))) y2_)))) (i.te [(V.row 0 1 (List.length z1x0) z1k0)] [] (z1x0 = y2_)))
def curfewref01_Span_l0 : Nat → curfewref01_Span_l0_Z → curfewref01_Span_l0_Y → Prop
  | 0, _, _ => False
  | k + 1, (z1x0, z1x1, z1x2, z1x3, z1x4), y2_ => (br (decide (z1x4 ≤ z1x2)) (req (!(z1x3 == 0)) (br ((Int.tmod (IntKind.wrap .i64 (z1x4 - z1x1)) z1x3) == 0) (req (Nat.ble ((List.length (z1x0 ++ [z1x4])) * 9) 140737488355328) (curfewref01_Span_l0 k ((z1x0 ++ [z1x4]), z1x1, z1x2, z1x3, (IntKind.wrap .i64 (z1x4 + 1))) y2_)) (curfewref01_Span_l0 k (z1x0, z1x1, z1x2, z1x3, (IntKind.wrap .i64 (z1x4 + 1))) y2_))) (z1x0 = y2_))
def curfewref01_Span_l0_L (z : curfewref01_Span_l0_Z) (y : curfewref01_Span_l0_Y) : Prop := ∃ k, curfewref01_Span_l0 k z y
noncomputable def q79_0_lp : Lp := .auto none q79_0_body (loopK q79_0_k fun z y => ∃ k, curfewref01_Span_l0 k z y)
noncomputable def q79_lp : Nat → FuncId → Nat → Nat → Lp := lpTab [(79, 5, 0, 0, q79_0_lp)]
theorem q79_0_t (n k : Nat) (z1x0 : List Int) (z1x1 z1x2 z1x3 z1x4 : Int) (z1k0 : Nat) (y2_ : curfewref01_Span_l0_Y) : rnd q79_cx okT q79_lp (n + 0) 79 none q79_0_body q79_0_k (curfewref01_Span_l0 k) (z1x0, z1x1, z1x2, z1x3, z1x4) () z1k0 y2_ = curfewref01_Span_l0_F ipT (fun z y => curfewref01_Span_l0 k z y) z1x0 z1x1 z1x2 z1x3 z1x4 z1k0 y2_ := by kernel_rfl
theorem q79_0_r (k : Nat) (z1x0 : List Int) (z1x1 z1x2 z1x3 z1x4 : Int) (z1k0 : Nat) (y2_ : curfewref01_Span_l0_Y) : curfewref01_Span_l0 (k + 1) (z1x0, z1x1, z1x2, z1x3, z1x4) y2_ → curfewref01_Span_l0_F ipT (fun z y => curfewref01_Span_l0 k z y) z1x0 z1x1 z1x2 z1x3 z1x4 z1k0 y2_ := by
  unfold curfewref01_Span_l0_F
  intro h; simp only [curfewref01_Span_l0] at h; revert h
  refine MI.run ?_
  repeat' (first | intro _ | with_reducible constructor)
theorem q79_0_ok (n : Nat) : Owed q79_cx okT 79 q79_lp (n + 0) q79_0_lp := owed_rnd (lk := q79_0_k) (l := curfewref01_Span_l0) (fun z y h => h) fun k z q c y h => Eq.mpr (q79_0_t n k z.1 z.2.1 z.2.2.1 z.2.2.2.1 z.2.2.2.2 c y) (q79_0_r k z.1 z.2.1 z.2.2.1 z.2.2.2.1 z.2.2.2.2 c y h)
def curfewref01_Span_F (i : Ip) (a0 a1 a2 : Int) (y : Int × Bool) : Prop :=
  (br (decide (a0 < 0)) ((0, false) = y) (br (decide (a1 > 63)) ((0, false) = y) (br (decide (a0 > a1)) ((0, false) = y) (br (decide (a2 < 1)) ((0, false) = y) (i.lo none q79_0_body (i.te [(V.row 0 1 0 0)] [] (∃ y5 : curfewref01_Span_l0_Y, curfewref01_Span_l0_L ([], a0, a1, a2, a0) y5 ∧ (i.cq [.nat] fun y5c => (i.tr (Nat.beq (List.length y5) (List.length y5)) (Nat.beq_refl _) (∃ y6 : Int × Bool, (curfewref01_Of_R y5 y6) ∧ (y6 = y)))))))))))
def curfewref01_Span_R (a0 a1 a2 : Int) (y : Int × Bool) : Prop :=
  (br (decide (a0 < 0)) ((0, false) = y) (br (decide (a1 > 63)) ((0, false) = y) (br (decide (a0 > a1)) ((0, false) = y) (br (decide (a2 < 1)) ((0, false) = y) (∃ y5 : curfewref01_Span_l0_Y, curfewref01_Span_l0_L ([], a0, a1, a2, a0) y5 ∧ (∃ y6 : Int × Bool, (curfewref01_Of_R y5 y6) ∧ (y6 = y)))))))
theorem q79_t (a0 a1 a2 : Int) (y : Int × Bool) : acall q79_cx okT q79_lp 60 (.fn 79 [] []) [(vi a0), (vi a1), (vi a2)] [] (leafK B79 y) = curfewref01_Span_F ipT a0 a1 a2 y := by kernel_rfl
theorem q79_r (a0 a1 a2 : Int) (y : Int × Bool) : curfewref01_Span_R a0 a1 a2 y → curfewref01_Span_F ipT a0 a1 a2 y := by
  unfold curfewref01_Span_R curfewref01_Span_F
  refine MI.run ?_
  repeat' (first | intro _ | with_reducible constructor)
abbrev r79 (x : A79.den) (y : B79.den) : Prop := curfewref01_Span_R (x.1) (x.2.1) (x.2.2) y
theorem curfewref01_Span_ok : FxOk Tryz.prog gsT 79 A79 B79 r79 := fo (c := q79_cx) rfl rfl (Fns_assoc ⟨b79, curfewref01_Of_ok, trivial⟩) (lp := q79_lp) (n := 60) (LpOk_tab ⟨q79_0_ok, trivial⟩) (enters Tryz.func79 (by kernel_rfl) rfl) (fun y => ⟨_, rfl⟩) fun x y h => Eq.mpr (q79_t _ _ _ y) (q79_r _ _ _ y h)
def e79 : Nat × Ent := (79, .fx A79 B79 r79)
noncomputable def c82 : Nat × Ent := (82, .body Tryz.f82)
theorem b82 {c : Cx} : EntOk Tryz.prog c 82 (.body Tryz.f82) := body_ent Tryz.func82 (by kernel_rfl) (by kernel_rfl)
abbrev A82 : RT := (.one (.int .u64))
abbrev B82 : RT := (.nw (.int .i64) 3)
noncomputable def q82_cx : Cx := ⟨tyT, [e80, c82], gsT, eqT, false⟩
noncomputable def q82_0_body : Code := subC [1, 1, 0, 1, 0, 0] (bodyOf Tryz.f82)
abbrev curfewref01_All_l0_Z : Type := List Int × Int × Int
abbrev curfewref01_All_l0_Y : Type := List Int
noncomputable def q82_0_k : LK := ⟨0, ⟨[(0, .w 1), (3, .row 0 1 (.z 0) (.c 0)), (5, .w 2)], [.row (.int .i64) (.z 0) 3 (.c 0)], []⟩, [.sl (.int .i64), .int .u64, .int .i64], [], [.nat], [], [⟨(.exit 0), ⟨[(3, .row 0 1 (.z 0) (.c 0))], [.row (.int .i64) (.z 0) 3 (.c 0)], []⟩, [.sl (.int .i64)], [.nat], none⟩]⟩
def curfewref01_All_l0_F (i : Ip) (l : curfewref01_All_l0_Z → curfewref01_All_l0_Y → Prop) (z1x0 : List Int) (z1x1 z1x2 : Int) (z1k0 : Nat) (y2_ : curfewref01_All_l0_Y) : Prop :=
  (br (decide (z1x2 < 64)) (∃ y3 : Bool, (curfewref01_Has_R z1x1 z1x2 y3) ∧ (br y3 (i.r2 (Nat.ble ((List.length (z1x0 ++ [z1x2])) * 9) 140737488355328) (((((true && true) && true) && (Nat.beq (List.length z1x0) (List.length z1x0))) && (Nat.beq z1k0 z1k0)) && (Nat.ble ((List.length (z1x0 ++ [z1x2])) * 9) 140737488355328)) (fun q => (band (band (band (band (band rfl rfl) rfl) (Nat.beq_refl _)) (Nat.beq_refl _)) q)) (i.cp (List.length (z1x0 ++ [z1x2])) fun c4 hc4 => (i.te [(V.row 0 1 (List.length (z1x0 ++ [z1x2])) c4)] [] (l ((z1x0 ++ [z1x2]), z1x1, (IntKind.wrap .i64 (z1x2 + 1))) y2_)))) (i.te [(V.row 0 1 (List.length z1x0) z1k0)] [] (l (z1x0, z1x1, (IntKind.wrap .i64 (z1x2 + 1))) y2_)))) (i.te [(V.row 0 1 (List.length z1x0) z1k0)] [] (z1x0 = y2_)))
def curfewref01_All_l0 : Nat → curfewref01_All_l0_Z → curfewref01_All_l0_Y → Prop
  | 0, _, _ => False
  | k + 1, (z1x0, z1x1, z1x2), y2_ => (br (decide (z1x2 < 64)) (∃ y3 : Bool, (curfewref01_Has_R z1x1 z1x2 y3) ∧ (br y3 (req (Nat.ble ((List.length (z1x0 ++ [z1x2])) * 9) 140737488355328) (curfewref01_All_l0 k ((z1x0 ++ [z1x2]), z1x1, (IntKind.wrap .i64 (z1x2 + 1))) y2_)) (curfewref01_All_l0 k (z1x0, z1x1, (IntKind.wrap .i64 (z1x2 + 1))) y2_))) (z1x0 = y2_))
def curfewref01_All_l0_L (z : curfewref01_All_l0_Z) (y : curfewref01_All_l0_Y) : Prop := ∃ k, curfewref01_All_l0 k z y
noncomputable def q82_0_lp : Lp := .auto none q82_0_body (loopK q82_0_k fun z y => ∃ k, curfewref01_All_l0 k z y)
noncomputable def q82_lp : Nat → FuncId → Nat → Nat → Lp := lpTab [(82, 3, 0, 1, q82_0_lp)]
theorem q82_0_t (n k : Nat) (z1x0 : List Int) (z1x1 z1x2 : Int) (z1k0 : Nat) (y2_ : curfewref01_All_l0_Y) : rnd q82_cx okT q82_lp (n + 1) 82 none q82_0_body q82_0_k (curfewref01_All_l0 k) (z1x0, z1x1, z1x2) () z1k0 y2_ = curfewref01_All_l0_F ipT (fun z y => curfewref01_All_l0 k z y) z1x0 z1x1 z1x2 z1k0 y2_ := by kernel_rfl
theorem q82_0_r (k : Nat) (z1x0 : List Int) (z1x1 z1x2 : Int) (z1k0 : Nat) (y2_ : curfewref01_All_l0_Y) : curfewref01_All_l0 (k + 1) (z1x0, z1x1, z1x2) y2_ → curfewref01_All_l0_F ipT (fun z y => curfewref01_All_l0 k z y) z1x0 z1x1 z1x2 z1k0 y2_ := by
  unfold curfewref01_All_l0_F
  intro h; simp only [curfewref01_All_l0] at h; revert h
  refine MI.run ?_
  repeat' (first | intro _ | with_reducible constructor)
theorem q82_0_ok (n : Nat) : Owed q82_cx okT 82 q82_lp (n + 1) q82_0_lp := owed_rnd (lk := q82_0_k) (l := curfewref01_All_l0) (fun z y h => h) fun k z q c y h => Eq.mpr (q82_0_t n k z.1 z.2.1 z.2.2 c y) (q82_0_r k z.1 z.2.1 z.2.2 c y h)
def curfewref01_All_F (i : Ip) (a0 : Int) (y : List Int) : Prop :=
  (i.lo none q82_0_body (i.te [(V.row 0 1 0 0)] [] (∃ y6 : curfewref01_All_l0_Y, curfewref01_All_l0_L ([], a0, 0) y6 ∧ (i.cq [.nat] fun y6c => (i.tr (true && ((Nat.beq (List.length y6) (List.length y6)) && (Nat.beq y6c y6c))) (band rfl (band (Nat.beq_refl _) (Nat.beq_refl _))) (y6 = y))))))
def curfewref01_All_R (a0 : Int) (y : List Int) : Prop :=
  (∃ y6 : curfewref01_All_l0_Y, curfewref01_All_l0_L ([], a0, 0) y6 ∧ (y6 = y))
theorem q82_t (a0 : Int) (y : List Int) : acall q82_cx okT q82_lp 60 (.fn 82 [] []) [(vu a0)] [] (leafK B82 y) = curfewref01_All_F ipT a0 y := by kernel_rfl
theorem q82_r (a0 : Int) (y : List Int) : curfewref01_All_R a0 y → curfewref01_All_F ipT a0 y := by
  unfold curfewref01_All_R curfewref01_All_F
  refine MI.run ?_
  repeat' (first | intro _ | with_reducible constructor)
abbrev r82 (x : A82.den) (y : B82.den) : Prop := curfewref01_All_R x y
theorem curfewref01_All_ok : FxOk Tryz.prog gsT 82 A82 B82 r82 := fo (c := q82_cx) rfl rfl (Fns_assoc ⟨curfewref01_Has_ok, b82, trivial⟩) (lp := q82_lp) (n := 60) (LpOk_tab ⟨q82_0_ok, trivial⟩) (enters Tryz.func82 (by kernel_rfl) rfl) (fun y => ⟨_, rfl⟩) fun x y h => Eq.mpr (q82_t _ y) (q82_r _ y h)
def e82 : Nat × Ent := (82, .fx A82 B82 r82)
noncomputable def c44 : Nat × Ent := (44, .body Tryz.f44)
theorem b44 {c : Cx} : EntOk Tryz.prog c 44 (.body Tryz.f44) := body_ent Tryz.func44 (by kernel_rfl) (by kernel_rfl)
abbrev A44 : RT := (.cons (.int .i64) (.one .str))
abbrev B44 : RT := (.tup (.cons (.int .u64) (.one .bool)))
noncomputable def q44_cx : Cx := ⟨tyT, [e43, c44, e76, e77, e78, e79, e80, e81, e82], gsT, eqT, false⟩
def curfewref06_item_j0 (p0 : Int × Bool) (p1 : Int) (y : Int × Bool) : Prop :=
  (br (p0.2) (br (p1 == 4) (∃ y8 : Bool, (curfewref01_Has_R (p0.1) 7 y8) ∧ (br y8 (∃ y9 : List Int, (curfewref01_All_R (p0.1) y9) ∧ (req (Nat.ble ((List.length ([0] ++ y9)) * 9) 140737488355328) (∃ y12 : Int × Bool, (curfewref01_Of_R ([0] ++ y9) y12) ∧ (((IntKind.wrap .u64 ((y12.1) - 128)), (y12.2)) = y)))) (p0 = y))) (p0 = y)) (p0 = y))
def curfewref06_item_j0F (i : Ip) (p0 : Int × Bool) (p1 : Int) (y : Int × Bool) : Prop :=
  (br (p0.2) (br (p1 == 4) (∃ y8 : Bool, (curfewref01_Has_R (p0.1) 7 y8) ∧ (br y8 (∃ y9 : List Int, (curfewref01_All_R (p0.1) y9) ∧ (i.cp (List.length y9) fun c10 hc10 => (i.r2 (Nat.ble ((List.length ([0] ++ y9)) * 9) 140737488355328) (((Nat.beq (List.length y9) (List.length y9)) && true) && (Nat.ble ((List.length ([0] ++ y9)) * 9) 140737488355328)) (fun q => (band (band (Nat.beq_refl _) rfl) q)) (∃ y12 : Int × Bool, (curfewref01_Of_R ([0] ++ y9) y12) ∧ (((IntKind.wrap .u64 ((y12.1) - 128)), (y12.2)) = y))))) (p0 = y))) (p0 = y)) (p0 = y))
theorem curfewref06_item_j0_r (p0 : Int × Bool) (p1 : Int) (y : Int × Bool) : MI (curfewref06_item_j0 p0 p1 y) (curfewref06_item_j0F ipT p0 p1 y) := by
  unfold curfewref06_item_j0 curfewref06_item_j0F
  repeat' (first | intro _ | with_reducible constructor)
def curfewref06_item_j1 (p0 : ByteArray × ByteArray × Bool) (p1 : Int) (p2 p3 y : Int × Bool) : Prop :=
  (br (p0.2.2) (∃ y6 : Int × Bool, (curfewref06_Value_R p1 (p0.2.1) y6) ∧ (br (!(y6.2)) ((0, false) = y) (∃ y7 : Int × Bool, (curfewref01_Span_R (p2.1) (y6.1) (p3.1) y7) ∧ (curfewref06_item_j0 y7 p1 y)))) (∃ y13 : Int × Bool, (curfewref01_Span_R (p2.1) (p2.1) (p3.1) y13) ∧ (curfewref06_item_j0 y13 p1 y)))
def curfewref06_item_j1F (i : Ip) (p0 : ByteArray × ByteArray × Bool) (p1 : Int) (p2 p3 y : Int × Bool) : Prop :=
  (br (p0.2.2) (∃ y6 : Int × Bool, (curfewref06_Value_R p1 (p0.2.1) y6) ∧ (br (!(y6.2)) ((0, false) = y) (∃ y7 : Int × Bool, (curfewref01_Span_R (p2.1) (y6.1) (p3.1) y7) ∧ (curfewref06_item_j0F i y7 p1 y)))) (∃ y13 : Int × Bool, (curfewref01_Span_R (p2.1) (p2.1) (p3.1) y13) ∧ (curfewref06_item_j0F i y13 p1 y)))
theorem curfewref06_item_j1_r (p0 : ByteArray × ByteArray × Bool) (p1 : Int) (p2 p3 y : Int × Bool) : MI (curfewref06_item_j1 p0 p1 p2 p3 y) (curfewref06_item_j1F ipT p0 p1 p2 p3 y) := by
  unfold curfewref06_item_j1 curfewref06_item_j1F
  repeat' (first | intro _ | exact curfewref06_item_j0_r _ _ _ | with_reducible constructor)
def curfewref06_item_j2 (p0 : ByteArray × ByteArray × Bool) (p1 : Int) (p2 y : Int × Bool) : Prop :=
  (br (p0.2.2) (∃ y40 : Int × Bool, (curfewref06_Value_R p1 (p0.2.1) y40) ∧ (br (!(y40.2)) ((0, false) = y) (∃ y41 : Int × Bool, (curfewref01_Span_R (p2.1) (y40.1) 1 y41) ∧ (curfewref06_item_j0 y41 p1 y)))) (∃ y47 : Int × Bool, (curfewref01_Span_R (p2.1) (p2.1) 1 y47) ∧ (curfewref06_item_j0 y47 p1 y)))
def curfewref06_item_j2F (i : Ip) (p0 : ByteArray × ByteArray × Bool) (p1 : Int) (p2 y : Int × Bool) : Prop :=
  (br (p0.2.2) (∃ y40 : Int × Bool, (curfewref06_Value_R p1 (p0.2.1) y40) ∧ (br (!(y40.2)) ((0, false) = y) (∃ y41 : Int × Bool, (curfewref01_Span_R (p2.1) (y40.1) 1 y41) ∧ (curfewref06_item_j0F i y41 p1 y)))) (∃ y47 : Int × Bool, (curfewref01_Span_R (p2.1) (p2.1) 1 y47) ∧ (curfewref06_item_j0F i y47 p1 y)))
theorem curfewref06_item_j2_r (p0 : ByteArray × ByteArray × Bool) (p1 : Int) (p2 y : Int × Bool) : MI (curfewref06_item_j2 p0 p1 p2 y) (curfewref06_item_j2F ipT p0 p1 p2 y) := by
  unfold curfewref06_item_j2 curfewref06_item_j2F
  repeat' (first | intro _ | exact curfewref06_item_j0_r _ _ _ | with_reducible constructor)
def curfewref06_item_F (i : Ip) (a0 : Int) (a1 : ByteArray) (y : Int × Bool) : Prop :=
  (∃ y1 : Int × Int, (curfewref06_Ends_R a0 y1) ∧ (∃ y2 : ByteArray × ByteArray × Bool, (curfewref06_cut_R a1 47 y2) ∧ (br (y2.2.2) (∃ y3 : Int × Bool, (curfewref06_number_R (y2.2.1) y3) ∧ (br (!(y3.2)) ((0, false) = y) (br (decide ((y3.1) < 1)) ((0, false) = y) (br (decide ((y3.1) > 63)) ((0, false) = y) (br (!(ByteArray.toList (y2.1) == ByteArray.toList (⟨#[42]⟩ : ByteArray))) (∃ y4 : ByteArray × ByteArray × Bool, (curfewref06_cut_R (y2.1) 45 y4) ∧ (∃ y5 : Int × Bool, (curfewref06_Value_R a0 (y4.1) y5) ∧ (br (!(y5.2)) ((0, false) = y) (br (y2.2.2) (br (!(y4.2.2)) ((0, false) = y) (curfewref06_item_j1F i y4 a0 y5 y3 y)) (curfewref06_item_j1F i y4 a0 y5 y3 y))))) (∃ y32 : Int × Bool, (curfewref01_Span_R (y1.1) (y1.2) (y3.1) y32) ∧ (curfewref06_item_j0F i y32 a0 y))))))) (br (!(ByteArray.toList (y2.1) == ByteArray.toList (⟨#[42]⟩ : ByteArray))) (∃ y38 : ByteArray × ByteArray × Bool, (curfewref06_cut_R (y2.1) 45 y38) ∧ (∃ y39 : Int × Bool, (curfewref06_Value_R a0 (y38.1) y39) ∧ (br (!(y39.2)) ((0, false) = y) (br (y2.2.2) (br (!(y38.2.2)) ((0, false) = y) (curfewref06_item_j2F i y38 a0 y39 y)) (curfewref06_item_j2F i y38 a0 y39 y))))) (∃ y66 : Int × Bool, (curfewref01_Span_R (y1.1) (y1.2) 1 y66) ∧ (curfewref06_item_j0F i y66 a0 y))))))
def curfewref06_item_R (a0 : Int) (a1 : ByteArray) (y : Int × Bool) : Prop :=
  (∃ y1 : Int × Int, (curfewref06_Ends_R a0 y1) ∧ (∃ y2 : ByteArray × ByteArray × Bool, (curfewref06_cut_R a1 47 y2) ∧ (br (y2.2.2) (∃ y3 : Int × Bool, (curfewref06_number_R (y2.2.1) y3) ∧ (br (!(y3.2)) ((0, false) = y) (br (decide ((y3.1) < 1)) ((0, false) = y) (br (decide ((y3.1) > 63)) ((0, false) = y) (br (!(ByteArray.toList (y2.1) == ByteArray.toList (⟨#[42]⟩ : ByteArray))) (∃ y4 : ByteArray × ByteArray × Bool, (curfewref06_cut_R (y2.1) 45 y4) ∧ (∃ y5 : Int × Bool, (curfewref06_Value_R a0 (y4.1) y5) ∧ (br (!(y5.2)) ((0, false) = y) (br (y2.2.2) (br (!(y4.2.2)) ((0, false) = y) (curfewref06_item_j1 y4 a0 y5 y3 y)) (curfewref06_item_j1 y4 a0 y5 y3 y))))) (∃ y32 : Int × Bool, (curfewref01_Span_R (y1.1) (y1.2) (y3.1) y32) ∧ (curfewref06_item_j0 y32 a0 y))))))) (br (!(ByteArray.toList (y2.1) == ByteArray.toList (⟨#[42]⟩ : ByteArray))) (∃ y38 : ByteArray × ByteArray × Bool, (curfewref06_cut_R (y2.1) 45 y38) ∧ (∃ y39 : Int × Bool, (curfewref06_Value_R a0 (y38.1) y39) ∧ (br (!(y39.2)) ((0, false) = y) (br (y2.2.2) (br (!(y38.2.2)) ((0, false) = y) (curfewref06_item_j2 y38 a0 y39 y)) (curfewref06_item_j2 y38 a0 y39 y))))) (∃ y66 : Int × Bool, (curfewref01_Span_R (y1.1) (y1.2) 1 y66) ∧ (curfewref06_item_j0 y66 a0 y))))))
theorem q44_t (a0 : Int) (a1 : ByteArray) (y : Int × Bool) : acall q44_cx okT lpT 60 (.fn 44 [] []) [(vi a0), (V.str a1)] [] (leafK B44 y) = curfewref06_item_F ipT a0 a1 y := by kernel_rfl
theorem q44_r (a0 : Int) (a1 : ByteArray) (y : Int × Bool) : curfewref06_item_R a0 a1 y → curfewref06_item_F ipT a0 a1 y := by
  unfold curfewref06_item_R curfewref06_item_F
  refine MI.run ?_
  repeat' (first | intro _ | exact curfewref06_item_j0_r _ _ _ | exact curfewref06_item_j1_r _ _ _ _ _ | exact curfewref06_item_j2_r _ _ _ _ | with_reducible constructor)
abbrev r44 (x : A44.den) (y : B44.den) : Prop := curfewref06_item_R (x.1) (x.2) y
theorem curfewref06_item_ok : FxOk Tryz.prog gsT 44 A44 B44 r44 := fo (c := q44_cx) rfl rfl (Fns_assoc ⟨curfewref06_cut_ok, b44, curfewref06_Ends_ok, curfewref06_number_ok, curfewref06_Value_ok, curfewref01_Span_ok, curfewref01_Has_ok, curfewref01_Of_ok, curfewref01_All_ok, trivial⟩) (n := 60) (lp_ok) (enters Tryz.func44 (by kernel_rfl) rfl) (fun y => ⟨_, rfl⟩) fun x y h => Eq.mpr (q44_t _ _ y) (q44_r _ _ y h)
def e44 : Nat × Ent := (44, .fx A44 B44 r44)
noncomputable def c45 : Nat × Ent := (45, .body Tryz.f45)
theorem b45 {c : Cx} : EntOk Tryz.prog c 45 (.body Tryz.f45) := body_ent Tryz.func45 (by kernel_rfl) (by kernel_rfl)
abbrev A45 : RT := (.one (.sl (.int .u64)))
abbrev B45 : RT := (.int .u64)
noncomputable def q45_cx : Cx := ⟨tyT, [c45, e81, e82], gsT, eqT, false⟩
noncomputable def q45_0_body : Code := subC [1, 1, 0, 1, 0, 0] (bodyOf Tryz.f45)
abbrev curfewref01_Or_l0_Z : Type := List Int × List Int × Int × Int
abbrev curfewref01_Or_l0_Y : Type := List Int
noncomputable def q45_0_k : LK := ⟨0, ⟨[(3, .row 0 1 (.z 0) (.c 0)), (8, .sl (.int .u64) 1), (9, .w 2), (10, .w 3)], [.row (.int .i64) (.z 0) 3 (.c 0)], []⟩, [.sl (.int .i64), .sl (.int .u64), .int .i64, .int .i64], [], [.nat], [], [⟨(.exit 0), ⟨[(3, .row 0 1 (.z 0) (.c 0))], [.row (.int .i64) (.z 0) 3 (.c 0)], []⟩, [.sl (.int .i64)], [.nat], none⟩]⟩
def curfewref01_Or_l0_F (i : Ip) (l : curfewref01_Or_l0_Z → curfewref01_Or_l0_Y → Prop) (z1x0 z1x1 : List Int) (z1x2 z1x3 : Int) (z1k0 : Nat) (y2_ : curfewref01_Or_l0_Y) : Prop :=
  (br (decide (z1x3 < z1x2)) (i.rq ((decide (0 ≤ z1x3)) && (decide (z1x3 < (((List.length z1x1) : Nat) : Int)))) (∃ y3 : List Int, (curfewref01_All_R (List.getD z1x1 (Int.toNat z1x3) 0) y3) ∧ (i.cp (List.length y3) fun c4 hc4 => (i.r2 (Nat.ble ((List.length (z1x0 ++ y3)) * 9) 140737488355328) ((((Nat.beq (List.length y3) (List.length y3)) && (Nat.beq (List.length z1x0) (List.length z1x0))) && (Nat.beq z1k0 z1k0)) && (Nat.ble ((List.length (z1x0 ++ y3)) * 9) 140737488355328)) (fun q => (band (band (band (Nat.beq_refl _) (Nat.beq_refl _)) (Nat.beq_refl _)) q)) (i.cp (List.length (z1x0 ++ y3)) fun c5 hc5 => (i.te [(V.row 0 1 (List.length (z1x0 ++ y3)) c5)] [] (l ((z1x0 ++ y3), z1x1, z1x2, (IntKind.wrap .i64 (z1x3 + 1))) y2_))))))) (i.te [(V.row 0 1 (List.length z1x0) z1k0)] [] (z1x0 = y2_)))
def curfewref01_Or_l0 : Nat → curfewref01_Or_l0_Z → curfewref01_Or_l0_Y → Prop
  | 0, _, _ => False
  | k + 1, (z1x0, z1x1, z1x2, z1x3), y2_ => (br (decide (z1x3 < z1x2)) (req ((decide (0 ≤ z1x3)) && (decide (z1x3 < (((List.length z1x1) : Nat) : Int)))) (∃ y3 : List Int, (curfewref01_All_R (List.getD z1x1 (Int.toNat z1x3) 0) y3) ∧ (req (Nat.ble ((List.length (z1x0 ++ y3)) * 9) 140737488355328) (curfewref01_Or_l0 k ((z1x0 ++ y3), z1x1, z1x2, (IntKind.wrap .i64 (z1x3 + 1))) y2_)))) (z1x0 = y2_))
def curfewref01_Or_l0_L (z : curfewref01_Or_l0_Z) (y : curfewref01_Or_l0_Y) : Prop := ∃ k, curfewref01_Or_l0 k z y
noncomputable def q45_0_lp : Lp := .auto none q45_0_body (loopK q45_0_k fun z y => ∃ k, curfewref01_Or_l0 k z y)
noncomputable def q45_lp : Nat → FuncId → Nat → Nat → Lp := lpTab [(45, 3, 0, 1, q45_0_lp)]
theorem q45_0_t (n k : Nat) (z1x0 z1x1 : List Int) (z1x2 z1x3 : Int) (z1k0 : Nat) (y2_ : curfewref01_Or_l0_Y) : rnd q45_cx okT q45_lp (n + 1) 45 none q45_0_body q45_0_k (curfewref01_Or_l0 k) (z1x0, z1x1, z1x2, z1x3) () z1k0 y2_ = curfewref01_Or_l0_F ipT (fun z y => curfewref01_Or_l0 k z y) z1x0 z1x1 z1x2 z1x3 z1k0 y2_ := by kernel_rfl
theorem q45_0_r (k : Nat) (z1x0 z1x1 : List Int) (z1x2 z1x3 : Int) (z1k0 : Nat) (y2_ : curfewref01_Or_l0_Y) : curfewref01_Or_l0 (k + 1) (z1x0, z1x1, z1x2, z1x3) y2_ → curfewref01_Or_l0_F ipT (fun z y => curfewref01_Or_l0 k z y) z1x0 z1x1 z1x2 z1x3 z1k0 y2_ := by
  unfold curfewref01_Or_l0_F
  intro h; simp only [curfewref01_Or_l0] at h; revert h
  refine MI.run ?_
  repeat' (first | intro _ | with_reducible constructor)
theorem q45_0_ok (n : Nat) : Owed q45_cx okT 45 q45_lp (n + 1) q45_0_lp := owed_rnd (lk := q45_0_k) (l := curfewref01_Or_l0) (fun z y h => h) fun k z q c y h => Eq.mpr (q45_0_t n k z.1 z.2.1 z.2.2.1 z.2.2.2 c y) (q45_0_r k z.1 z.2.1 z.2.2.1 z.2.2.2 c y h)
def curfewref01_Or_F (i : Ip) (a0 : List Int) (y : Int) : Prop :=
  (i.lo none q45_0_body (i.te [(V.row 0 1 0 0)] [] (∃ y7 : curfewref01_Or_l0_Y, curfewref01_Or_l0_L ([], a0, (((List.length a0) : Nat) : Int), 0) y7 ∧ (i.cq [.nat] fun y7c => (i.tr (Nat.beq (List.length y7) (List.length y7)) (Nat.beq_refl _) (∃ y8 : Int × Bool, (curfewref01_Of_R y7 y8) ∧ ((y8.1) = y)))))))
def curfewref01_Or_R (a0 : List Int) (y : Int) : Prop :=
  (∃ y7 : curfewref01_Or_l0_Y, curfewref01_Or_l0_L ([], a0, (((List.length a0) : Nat) : Int), 0) y7 ∧ (∃ y8 : Int × Bool, (curfewref01_Of_R y7 y8) ∧ ((y8.1) = y)))
theorem q45_t (a0 : List Int) (y : Int) : acall q45_cx okT q45_lp 60 (.fn 45 [] []) [(V.sl (.int .u64) a0 none)] [] (leafK B45 y) = curfewref01_Or_F ipT a0 y := by kernel_rfl
theorem q45_r (a0 : List Int) (y : Int) : curfewref01_Or_R a0 y → curfewref01_Or_F ipT a0 y := by
  unfold curfewref01_Or_R curfewref01_Or_F
  refine MI.run ?_
  repeat' (first | intro _ | with_reducible constructor)
abbrev r45 (x : A45.den) (y : B45.den) : Prop := curfewref01_Or_R x y
theorem curfewref01_Or_ok : FxOk Tryz.prog gsT 45 A45 B45 r45 := fo (c := q45_cx) rfl rfl (Fns_assoc ⟨b45, curfewref01_Of_ok, curfewref01_All_ok, trivial⟩) (lp := q45_lp) (n := 60) (LpOk_tab ⟨q45_0_ok, trivial⟩) (enters Tryz.func45 (by kernel_rfl) rfl) (fun y => ⟨_, rfl⟩) fun x y h => Eq.mpr (q45_t _ y) (q45_r _ y h)
def e45 : Nat × Ent := (45, .fx A45 B45 r45)
noncomputable def c28 : Nat × Ent := (28, .body Tryz.f28)
theorem b28 {c : Cx} : EntOk Tryz.prog c 28 (.body Tryz.f28) := body_ent Tryz.func28 (by kernel_rfl) (by kernel_rfl)
abbrev A28 : RT := (.cons (.int .i64) (.one .str))
abbrev B28 : RT := (.tup (.cons (.int .u64) (.cons (.int .i64) (.one (.int .i64)))))
noncomputable def q28_cx : Cx := ⟨tyT, [c28, e43, e44, e45], gsT, eqT, false⟩
noncomputable def q28_0_body : Code := subC [1, 1, 1, 1, 0, 0, 0] (bodyOf Tryz.f28)
abbrev curfewref06_Read_l0_Z : Type := List Int × Int × Int × ByteArray × Bool
abbrev curfewref06_Read_l0_Y : Type := (Int) ⊕ (List Int)
noncomputable def q28_0_k : LK := ⟨0, ⟨[(0, .w 1), (7, .row 0 1 (.z 0) (.c 0)), (8, .w 2), (9, .w 3), (10, .w 4)], [.row (.int .u64) (.z 0) 29 (.c 0)], []⟩, [.sl (.int .u64), .int .i64, .int .i64, .str, .bool], [], [.nat], [], [⟨.ret, ⟨[(4, .li .u64 0), (5, .w 0), (6, .li .i64 160)], [], []⟩, [.int .i64], [], none⟩, ⟨(.exit 0), ⟨[(7, .row 0 1 (.z 0) (.c 0))], [.row (.int .u64) (.z 0) 29 (.c 0)], []⟩, [.sl (.int .u64)], [.nat], none⟩]⟩
def curfewref06_Read_l0_F (i : Ip) (l : curfewref06_Read_l0_Z → curfewref06_Read_l0_Y → Prop) (z1x0 : List Int) (z1x1 z1x2 : Int) (z1x3 : ByteArray) (z1x4 : Bool) (z1k0 : Nat) (y2_ : curfewref06_Read_l0_Y) : Prop :=
  (br z1x4 (∃ y3 : ByteArray × ByteArray × Bool, (curfewref06_cut_R z1x3 44 y3) ∧ (∃ y4 : Int × Bool, (curfewref06_item_R z1x1 (y3.1) y4) ∧ (br (!(y4.2)) ((Sum.inl z1x2) = y2_) (i.r2 (Nat.ble ((List.length (z1x0 ++ [(y4.1)])) * 9) 140737488355328) (((((true && true) && true) && (Nat.beq (List.length z1x0) (List.length z1x0))) && (Nat.beq z1k0 z1k0)) && (Nat.ble ((List.length (z1x0 ++ [(y4.1)])) * 9) 140737488355328)) (fun q => (band (band (band (band (band rfl rfl) rfl) (Nat.beq_refl _)) (Nat.beq_refl _)) q)) (i.cp (List.length (z1x0 ++ [(y4.1)])) fun c5 hc5 => (i.te [(V.row 0 1 (List.length (z1x0 ++ [(y4.1)])) c5)] [] (l ((z1x0 ++ [(y4.1)]), z1x1, (IntKind.wrap .i64 ((IntKind.wrap .i64 (z1x2 + ((ByteArray.size (y3.1) : Nat) : Int))) + 1)), (y3.2.1), (y3.2.2)) y2_))))))) (i.te [(V.row 0 1 (List.length z1x0) z1k0)] [] ((Sum.inr z1x0) = y2_)))
def curfewref06_Read_l0 : Nat → curfewref06_Read_l0_Z → curfewref06_Read_l0_Y → Prop
  | 0, _, _ => False
  | k + 1, (z1x0, z1x1, z1x2, z1x3, z1x4), y2_ => (br z1x4 (∃ y3 : ByteArray × ByteArray × Bool, (curfewref06_cut_R z1x3 44 y3) ∧ (∃ y4 : Int × Bool, (curfewref06_item_R z1x1 (y3.1) y4) ∧ (br (!(y4.2)) ((Sum.inl z1x2) = y2_) (req (Nat.ble ((List.length (z1x0 ++ [(y4.1)])) * 9) 140737488355328) (curfewref06_Read_l0 k ((z1x0 ++ [(y4.1)]), z1x1, (IntKind.wrap .i64 ((IntKind.wrap .i64 (z1x2 + ((ByteArray.size (y3.1) : Nat) : Int))) + 1)), (y3.2.1), (y3.2.2)) y2_))))) ((Sum.inr z1x0) = y2_))
def curfewref06_Read_l0_L (z : curfewref06_Read_l0_Z) (y : curfewref06_Read_l0_Y) : Prop := ∃ k, curfewref06_Read_l0 k z y
noncomputable def q28_0_lp : Lp := .auto none q28_0_body (loopK q28_0_k fun z y => ∃ k, curfewref06_Read_l0 k z y)
noncomputable def q28_lp : Nat → FuncId → Nat → Nat → Lp := lpTab [(28, 5, 0, 1, q28_0_lp)]
theorem q28_0_t (n k : Nat) (z1x0 : List Int) (z1x1 z1x2 : Int) (z1x3 : ByteArray) (z1x4 : Bool) (z1k0 : Nat) (y2_ : curfewref06_Read_l0_Y) : rnd q28_cx okT q28_lp (n + 1) 28 none q28_0_body q28_0_k (curfewref06_Read_l0 k) (z1x0, z1x1, z1x2, z1x3, z1x4) () z1k0 y2_ = curfewref06_Read_l0_F ipT (fun z y => curfewref06_Read_l0 k z y) z1x0 z1x1 z1x2 z1x3 z1x4 z1k0 y2_ := by kernel_rfl
theorem q28_0_r (k : Nat) (z1x0 : List Int) (z1x1 z1x2 : Int) (z1x3 : ByteArray) (z1x4 : Bool) (z1k0 : Nat) (y2_ : curfewref06_Read_l0_Y) : curfewref06_Read_l0 (k + 1) (z1x0, z1x1, z1x2, z1x3, z1x4) y2_ → curfewref06_Read_l0_F ipT (fun z y => curfewref06_Read_l0 k z y) z1x0 z1x1 z1x2 z1x3 z1x4 z1k0 y2_ := by
  unfold curfewref06_Read_l0_F
  intro h; simp only [curfewref06_Read_l0] at h; revert h
  refine MI.run ?_
  repeat' (first | intro _ | with_reducible constructor)
theorem q28_0_ok (n : Nat) : Owed q28_cx okT 28 q28_lp (n + 1) q28_0_lp := owed_rnd (lk := q28_0_k) (l := curfewref06_Read_l0) (fun z y h => h) fun k z q c y h => Eq.mpr (q28_0_t n k z.1 z.2.1 z.2.2.1 z.2.2.2.1 z.2.2.2.2 c y) (q28_0_r k z.1 z.2.1 z.2.2.1 z.2.2.2.1 z.2.2.2.2 c y h)
def curfewref06_Read_F (i : Ip) (a0 : Int) (a1 : ByteArray) (y : Int × Int × Int) : Prop :=
  (br (decide (((ByteArray.size a1 : Nat) : Int) > 256)) ((0, (0, 3)) = y) (i.lo none q28_0_body (i.te [(V.row 0 1 0 0)] [] (∃ y7 : curfewref06_Read_l0_Y, curfewref06_Read_l0_L ([], a0, 0, a1, true) y7 ∧ sume (fun y7 => ((0, (y7, 160)) = y)) (fun y7 => (i.cq [.nat] fun y7c => (i.tr (Nat.beq (List.length y7) (List.length y7)) (Nat.beq_refl _) (∃ y8 : Int, (curfewref01_Or_R y7 y8) ∧ ((y8, (0, 0)) = y))))) y7))))
def curfewref06_Read_R (a0 : Int) (a1 : ByteArray) (y : Int × Int × Int) : Prop :=
  (br (decide (((ByteArray.size a1 : Nat) : Int) > 256)) ((0, (0, 3)) = y) (∃ y7 : curfewref06_Read_l0_Y, curfewref06_Read_l0_L ([], a0, 0, a1, true) y7 ∧ sume (fun y7 => ((0, (y7, 160)) = y)) (fun y7 => (∃ y8 : Int, (curfewref01_Or_R y7 y8) ∧ ((y8, (0, 0)) = y))) y7))
theorem q28_t (a0 : Int) (a1 : ByteArray) (y : Int × Int × Int) : acall q28_cx okT q28_lp 60 (.fn 28 [] []) [(vi a0), (V.str a1)] [] (leafK B28 y) = curfewref06_Read_F ipT a0 a1 y := by kernel_rfl
theorem q28_r (a0 : Int) (a1 : ByteArray) (y : Int × Int × Int) : curfewref06_Read_R a0 a1 y → curfewref06_Read_F ipT a0 a1 y := by
  unfold curfewref06_Read_R curfewref06_Read_F
  refine MI.run ?_
  repeat' (first | intro _ | with_reducible constructor)
abbrev r28 (x : A28.den) (y : B28.den) : Prop := curfewref06_Read_R (x.1) (x.2) y
theorem curfewref06_Read_ok : FxOk Tryz.prog gsT 28 A28 B28 r28 := fo (c := q28_cx) rfl rfl (Fns_assoc ⟨b28, curfewref06_cut_ok, curfewref06_item_ok, curfewref01_Or_ok, trivial⟩) (lp := q28_lp) (n := 60) (LpOk_tab ⟨q28_0_ok, trivial⟩) (enters Tryz.func28 (by kernel_rfl) rfl) (fun y => ⟨_, rfl⟩) fun x y h => Eq.mpr (q28_t _ _ y) (q28_r _ _ y h)
def e28 : Nat × Ent := (28, .fx A28 B28 r28)
noncomputable def c29 : Nat × Ent := (29, .body Tryz.f29)
theorem b29 {c : Cx} : EntOk Tryz.prog c 29 (.body Tryz.f29) := body_ent Tryz.func29 (by kernel_rfl) (by kernel_rfl)
abbrev A29 : RT := (.one (.agg (.cons (.int .u64) (.cons (.int .u64) (.cons (.int .u64) (.cons (.int .u64) (.one (.int .u64))))))))
abbrev B29 : RT := (.agg (.cons (.int .u64) (.cons (.int .u64) (.cons (.int .u64) (.cons (.int .u64) (.one (.int .u64)))))))
noncomputable def q29_cx : Cx := ⟨tyT, [c29], gsT, eqT, false⟩
def curfewref07_Of_R (a0 a1 a2 a3 a4 : Int) (y : Int × Int × Int × Int × Int) : Prop :=
  ((a0, (a1, (a2, (a3, a4)))) = y)
theorem q29_t (a0 a1 a2 a3 a4 : Int) (y : Int × Int × Int × Int × Int) : acall q29_cx okT lpT 60 (.fn 29 [] []) [(V.agg [(vu a0), (vu a1), (vu a2), (vu a3), (vu a4)])] [] (leafK B29 y) = curfewref07_Of_R a0 a1 a2 a3 a4 y := by kernel_rfl
abbrev r29 (x : A29.den) (y : B29.den) : Prop := curfewref07_Of_R (x.1) (x.2.1) (x.2.2.1) (x.2.2.2.1) (x.2.2.2.2) y
theorem curfewref07_Of_ok : FxOk Tryz.prog gsT 29 A29 B29 r29 := fo (c := q29_cx) rfl rfl (Fns_assoc ⟨b29, trivial⟩) (n := 60) (lp_ok) (enters Tryz.func29 (by kernel_rfl) rfl) (fun y => ⟨_, rfl⟩) fun x y h => Eq.mpr (q29_t _ _ _ _ _ y) h
def e29 : Nat × Ent := (29, .fx A29 B29 r29)
abbrev A16n : RT := (.one .str)
abbrev B16n : RT := (.tup (.cons (.agg (.cons (.int .u64) (.cons (.int .u64) (.cons (.int .u64) (.cons (.int .u64) (.one (.int .u64))))))) (.cons (.int .i64) (.one .bool))))
def e16n : Nat × Ent := (16, .fx A16n B16n fun x y => never_R x y)
theorem never16_ok : FxOk Tryz.prog gsT 16 A16n B16n fun x y => never_R x y := ⟨enters Tryz.func16 (by kernel_rfl) rfl, fun y => ⟨_, rfl⟩, fun x y h => False.elim h⟩
abbrev A16m : RT := (.one .str)
abbrev B16m : RT := (.tup (.cons (.agg (.cons (.int .u64) (.cons (.int .u64) (.cons (.int .u64) (.cons (.int .u64) (.one (.int .u64))))))) (.cons (.int .i64) (.one .bool))))
noncomputable def q16m_cx : Cx := ⟨tyT, [e16n, e26, e27, e28, e29], gsT, eqT, false⟩
noncomputable def q16m_0_body : Code := subC [1, 1, 1, 1, 0, 1, 0, 0] (bodyOf Tryz.f16)
abbrev curfewref07_Read0_l0_Z : Type := (List (Int × ByteArray)) × Int × Int × Int × Int × Int × ByteArray × Int × Int
abbrev curfewref07_Read0_l0_Y : Type := (Int) ⊕ (Int × Int × Int × Int × Int)
noncomputable def q16m_0_k : LK := ⟨3, ⟨[(0, .w 6), (2, .ptr 0 0), (5, .row 1 2 (.z 0) (.q 0)), (7, .ptr 2 0), (53, .row 1 2 (.z 0) (.q 0)), (54, .w 7), (55, .w 8)], [.cells [.li .u64 0, .li .u64 0, .li .u64 0, .li .u64 0, .li .u64 0], .row (.pr (.int .i64) .str) (.z 0) 75 (.q 0), .cells [.w 1, .w 2, .w 3, .w 4, .w 5]], []⟩, [.sl (.pr (.int .i64) .str), .int .u64, .int .u64, .int .u64, .int .u64, .int .u64, .str, .int .i64, .int .i64], [.nat], [], [0, 6], [⟨.ret, ⟨[(2, .ptr 0 0), (3, .w 0), (4, .lb false)], [.cells [.li .u64 0, .li .u64 0, .li .u64 0, .li .u64 0, .li .u64 0], .dead, .dead], []⟩, [.int .i64], [], none⟩, ⟨(.exit 1), ⟨[(0, .e (.p 1)), (2, .ptr 0 0), (5, .row 1 2 (.p 0) (.p 2)), (7, .ptr 2 0)], [.cells [.li .u64 0, .li .u64 0, .li .u64 0, .li .u64 0, .li .u64 0], .row (.pr (.int .i64) .str) (.p 0) 75 (.p 2), .cells [.w 0, .w 1, .w 2, .w 3, .w 4]], []⟩, [.int .u64, .int .u64, .int .u64, .int .u64, .int .u64], [], none⟩]⟩
def curfewref07_Read0_l0_F (i : Ip) (l : curfewref07_Read0_l0_Z → curfewref07_Read0_l0_Y → Prop) (z5x0 : List (Int × ByteArray)) (z5x1 z5x2 z5x3 z5x4 z5x5 : Int) (z5x6 : ByteArray) (z5x7 z5x8 : Int) (z5q0 : Nat) (y6_ : curfewref07_Read0_l0_Y) : Prop :=
  (br (decide (z5x8 < z5x7)) (i.rq ((decide (0 ≤ z5x8)) && (decide (z5x8 < (((List.length z5x0) : Nat) : Int)))) (i.rq (Nat.blt (Int.toNat z5x8) (List.length z5x0)) (br (z5x8 == 5) (i.an 1 ((Sum.inl ((List.getD z5x0 (Int.toNat z5x8) (0, (⟨#[]⟩ : ByteArray))).1)) = y6_)) (∃ y7 : Int × Int × Int, (curfewref06_Read_R z5x8 ((List.getD z5x0 (Int.toNat z5x8) (0, (⟨#[]⟩ : ByteArray))).2) y7) ∧ (br ((y7.2.2) != 0) (i.an 1 ((Sum.inl (IntKind.wrap .i64 (((List.getD z5x0 (Int.toNat z5x8) (0, (⟨#[]⟩ : ByteArray))).1) + (y7.2.1)))) = y6_)) (i.rq ((decide (0 ≤ z5x8)) && (decide (z5x8 < 5))) (i.rq (Nat.blt (offN 0 z5x8 1) 5) (i.te [(V.row 1 2 (List.length z5x0) z5q0), (V.row 1 2 (List.length z5x0) z5q0)] [] (i.tq [(V.sl (.pr (.int .i64) .str) z5x0 none), (V.str z5x6), (V.yld z5q0)] (l (z5x0, (bif (Nat.beq (offN 0 z5x8 1) 0) then (y7.1) else z5x1), (bif (Nat.beq (offN 0 z5x8 1) 1) then (y7.1) else z5x2), (bif (Nat.beq (offN 0 z5x8 1) 2) then (y7.1) else z5x3), (bif (Nat.beq (offN 0 z5x8 1) 3) then (y7.1) else z5x4), (bif (Nat.beq (offN 0 z5x8 1) 4) then (y7.1) else z5x5), z5x6, z5x7, (IntKind.wrap .i64 (z5x8 + 1))) y6_)))))))))) (i.te [(V.sl (.pr (.int .i64) .str) z5x0 none), (V.yld z5q0), (V.str z5x6), (V.row 1 2 (List.length z5x0) z5q0)] [] ((Sum.inr (z5x1, z5x2, z5x3, z5x4, z5x5)) = y6_)))
def curfewref07_Read0_l0 : Nat → curfewref07_Read0_l0_Z → curfewref07_Read0_l0_Y → Prop
  | 0, _, _ => False
  | k + 1, (z5x0, z5x1, z5x2, z5x3, z5x4, z5x5, z5x6, z5x7, z5x8), y6_ => (br (decide (z5x8 < z5x7)) (req ((decide (0 ≤ z5x8)) && (decide (z5x8 < (((List.length z5x0) : Nat) : Int)))) (req (Nat.blt (Int.toNat z5x8) (List.length z5x0)) (br (z5x8 == 5) ((Sum.inl ((List.getD z5x0 (Int.toNat z5x8) (0, (⟨#[]⟩ : ByteArray))).1)) = y6_) (∃ y7 : Int × Int × Int, (curfewref06_Read_R z5x8 ((List.getD z5x0 (Int.toNat z5x8) (0, (⟨#[]⟩ : ByteArray))).2) y7) ∧ (br ((y7.2.2) != 0) ((Sum.inl (IntKind.wrap .i64 (((List.getD z5x0 (Int.toNat z5x8) (0, (⟨#[]⟩ : ByteArray))).1) + (y7.2.1)))) = y6_) (req ((decide (0 ≤ z5x8)) && (decide (z5x8 < 5))) (req (Nat.blt (offN 0 z5x8 1) 5) (curfewref07_Read0_l0 k (z5x0, (bif (Nat.beq (offN 0 z5x8 1) 0) then (y7.1) else z5x1), (bif (Nat.beq (offN 0 z5x8 1) 1) then (y7.1) else z5x2), (bif (Nat.beq (offN 0 z5x8 1) 2) then (y7.1) else z5x3), (bif (Nat.beq (offN 0 z5x8 1) 3) then (y7.1) else z5x4), (bif (Nat.beq (offN 0 z5x8 1) 4) then (y7.1) else z5x5), z5x6, z5x7, (IntKind.wrap .i64 (z5x8 + 1))) y6_)))))))) ((Sum.inr (z5x1, z5x2, z5x3, z5x4, z5x5)) = y6_))
def curfewref07_Read0_l0_L (z : curfewref07_Read0_l0_Z) (y : curfewref07_Read0_l0_Y) : Prop := ∃ k, curfewref07_Read0_l0 k z y
noncomputable def q16m_0_lp : Lp := .auto none q16m_0_body (loopK q16m_0_k fun z y => ∃ k, curfewref07_Read0_l0 k z y)
noncomputable def q16m_lp : Nat → FuncId → Nat → Nat → Lp := lpTab [(16, 11, 3, 1, q16m_0_lp)]
theorem q16m_0_t (n k : Nat) (z5x0 : List (Int × ByteArray)) (z5x1 z5x2 z5x3 z5x4 z5x5 : Int) (z5x6 : ByteArray) (z5x7 z5x8 : Int) (z5q0 : Nat) (y6_ : curfewref07_Read0_l0_Y) : rnd q16m_cx okT q16m_lp (n + 1) 16 none q16m_0_body q16m_0_k (curfewref07_Read0_l0 k) (z5x0, z5x1, z5x2, z5x3, z5x4, z5x5, z5x6, z5x7, z5x8) z5q0 () y6_ = curfewref07_Read0_l0_F ipT (fun z y => curfewref07_Read0_l0 k z y) z5x0 z5x1 z5x2 z5x3 z5x4 z5x5 z5x6 z5x7 z5x8 z5q0 y6_ := by kernel_rfl
theorem q16m_0_r (k : Nat) (z5x0 : List (Int × ByteArray)) (z5x1 z5x2 z5x3 z5x4 z5x5 : Int) (z5x6 : ByteArray) (z5x7 z5x8 : Int) (z5q0 : Nat) (y6_ : curfewref07_Read0_l0_Y) : curfewref07_Read0_l0 (k + 1) (z5x0, z5x1, z5x2, z5x3, z5x4, z5x5, z5x6, z5x7, z5x8) y6_ → curfewref07_Read0_l0_F ipT (fun z y => curfewref07_Read0_l0 k z y) z5x0 z5x1 z5x2 z5x3 z5x4 z5x5 z5x6 z5x7 z5x8 z5q0 y6_ := by
  unfold curfewref07_Read0_l0_F
  intro h; simp only [curfewref07_Read0_l0] at h; revert h
  refine MI.run ?_
  repeat' (first | intro _ | with_reducible constructor)
theorem q16m_0_ok (n : Nat) : Owed q16m_cx okT 16 q16m_lp (n + 1) q16m_0_lp := owed_rnd (lk := q16m_0_k) (l := curfewref07_Read0_l0) (fun z y h => h) fun k z q c y h => Eq.mpr (q16m_0_t n k z.1 z.2.1 z.2.2.1 z.2.2.2.1 z.2.2.2.2.1 z.2.2.2.2.2.1 z.2.2.2.2.2.2.1 z.2.2.2.2.2.2.2.1 z.2.2.2.2.2.2.2.2 q y) (q16m_0_r k z.1 z.2.1 z.2.2.1 z.2.2.2.1 z.2.2.2.2.1 z.2.2.2.2.2.1 z.2.2.2.2.2.2.1 z.2.2.2.2.2.2.2.1 z.2.2.2.2.2.2.2.2 q y h)
def curfewref07_Read0_j0 (p0 : List (Int × ByteArray)) (p2 : ByteArray) (y : (Int × Int × Int × Int × Int) × Int × Bool) : Prop :=
  (∃ y9 : curfewref07_Read0_l0_Y, curfewref07_Read0_l0_L (p0, 0, 0, 0, 0, 0, p2, (((List.length p0) : Nat) : Int), 0) y9 ∧ sume (fun y9 => (((0, (0, (0, (0, 0)))), (y9, false)) = y)) (fun y9 => (br (decide ((((List.length p0) : Nat) : Int) < 5)) (((0, (0, (0, (0, 0)))), (((ByteArray.size p2 : Nat) : Int), false)) = y) (∃ y10 : Int × Int × Int × Int × Int, (curfewref07_Of_R (y9.1) (y9.2.1) (y9.2.2.1) (y9.2.2.2.1) (y9.2.2.2.2) y10) ∧ ((y10, (0, true)) = y)))) y9)
def curfewref07_Read0_j0F (i : Ip) (p0 : List (Int × ByteArray)) (p1 : Nat) (p2 : ByteArray) (y : (Int × Int × Int × Int × Int) × Int × Bool) : Prop :=
  (i.lo none q16m_0_body (i.te [(V.row 1 2 (List.length p0) p1), (V.row 1 2 (List.length p0) p1)] [] (∃ y9 : curfewref07_Read0_l0_Y, curfewref07_Read0_l0_L (p0, 0, 0, 0, 0, 0, p2, (((List.length p0) : Nat) : Int), 0) y9 ∧ sume (fun y9 => (((0, (0, (0, (0, 0)))), (y9, false)) = y)) (fun y9 => (br (decide ((((List.length p0) : Nat) : Int) < 5)) (((0, (0, (0, (0, 0)))), (((ByteArray.size p2 : Nat) : Int), false)) = y) (∃ y10 : Int × Int × Int × Int × Int, (curfewref07_Of_R (y9.1) (y9.2.1) (y9.2.2.1) (y9.2.2.2.1) (y9.2.2.2.2) y10) ∧ ((y10, (0, true)) = y)))) y9)))
theorem curfewref07_Read0_j0_r (p0 : List (Int × ByteArray)) (p1 : Nat) (p2 : ByteArray) (y : (Int × Int × Int × Int × Int) × Int × Bool) : MI (curfewref07_Read0_j0 p0 p2 y) (curfewref07_Read0_j0F ipT p0 p1 p2 y) := by
  unfold curfewref07_Read0_j0 curfewref07_Read0_j0F
  repeat' (first | intro _ | with_reducible constructor)
noncomputable def q16m_ct : Cx := ⟨tyT, [(16, .full (bodyG q16m_cx okT q16m_lp 59 16 Tryz.f16))], gsT, eqT, false⟩
def curfewref07_Read0_F (i : Ip) (a0 : ByteArray) (y : (Int × Int × Int × Int × Int) × Int × Bool) : Prop :=
  (∃ y1 : List (Int × ByteArray), (curfewref07_words_R a0 y1) ∧ (i.cp (List.length y1) fun c2 hc2 => (br (decide ((((List.length y1) : Nat) : Int) > 0)) (i.r2 (decide (0 < (((List.length y1) : Nat) : Int))) (true && (decide (0 < (((List.length y1) : Nat) : Int)))) (fun q => (band rfl q)) (i.rq (Nat.blt 0 (List.length y1)) (i.r2 (decide (0 < ((ByteArray.size ((List.getD y1 0 (0, (⟨#[]⟩ : ByteArray))).2) : Nat) : Int))) (true && (decide (0 < ((ByteArray.size ((List.getD y1 0 (0, (⟨#[]⟩ : ByteArray))).2) : Nat) : Int)))) (fun q => (band rfl q)) (br ((((List.getD (Array.toList (ByteArray.data ((List.getD y1 0 (0, (⟨#[]⟩ : ByteArray))).2))) 0 0).toNat : Nat) : Int) == 64) (i.r2 (decide (0 < (((List.length y1) : Nat) : Int))) (true && (decide (0 < (((List.length y1) : Nat) : Int)))) (fun q => (band rfl q)) (i.rq (Nat.blt 0 (List.length y1)) (∃ y3 : ByteArray, (curfewref07_Macro_R ((List.getD y1 0 (0, (⟨#[]⟩ : ByteArray))).2) y3) ∧ (br (ByteArray.toList y3 == ByteArray.toList (⟨#[]⟩ : ByteArray)) (i.r2 (decide (0 < (((List.length y1) : Nat) : Int))) (true && (decide (0 < (((List.length y1) : Nat) : Int)))) (fun q => (band rfl q)) (i.an 1 (i.rq (Nat.blt 0 (List.length y1)) (((0, (0, (0, (0, 0)))), (((List.getD y1 0 (0, (⟨#[]⟩ : ByteArray))).1), false)) = y)))) (br (decide ((((List.length y1) : Nat) : Int) > 1)) (i.r2 (decide (1 < (((List.length y1) : Nat) : Int))) (true && (decide (1 < (((List.length y1) : Nat) : Int)))) (fun q => (band rfl q)) (i.an 1 (i.rq (Nat.blt 1 (List.length y1)) (((0, (0, (0, (0, 0)))), (((List.getD y1 1 (0, (⟨#[]⟩ : ByteArray))).1), false)) = y)))) (∃ y4 : (Int × Int × Int × Int × Int) × Int × Bool, (never_R y3 y4) ∧ (y4 = y))))))) (curfewref07_Read0_j0F i y1 c2 a0 y))))) (curfewref07_Read0_j0F i y1 c2 a0 y))))
def curfewref07_Read0_R (a0 : ByteArray) (y : (Int × Int × Int × Int × Int) × Int × Bool) : Prop :=
  (∃ y1 : List (Int × ByteArray), (curfewref07_words_R a0 y1) ∧ (br (decide ((((List.length y1) : Nat) : Int) > 0)) (req (decide (0 < (((List.length y1) : Nat) : Int))) (req (Nat.blt 0 (List.length y1)) (req (decide (0 < ((ByteArray.size ((List.getD y1 0 (0, (⟨#[]⟩ : ByteArray))).2) : Nat) : Int))) (br ((((List.getD (Array.toList (ByteArray.data ((List.getD y1 0 (0, (⟨#[]⟩ : ByteArray))).2))) 0 0).toNat : Nat) : Int) == 64) (req (decide (0 < (((List.length y1) : Nat) : Int))) (req (Nat.blt 0 (List.length y1)) (∃ y3 : ByteArray, (curfewref07_Macro_R ((List.getD y1 0 (0, (⟨#[]⟩ : ByteArray))).2) y3) ∧ (br (ByteArray.toList y3 == ByteArray.toList (⟨#[]⟩ : ByteArray)) (req (decide (0 < (((List.length y1) : Nat) : Int))) (req (Nat.blt 0 (List.length y1)) (((0, (0, (0, (0, 0)))), (((List.getD y1 0 (0, (⟨#[]⟩ : ByteArray))).1), false)) = y))) (br (decide ((((List.length y1) : Nat) : Int) > 1)) (req (decide (1 < (((List.length y1) : Nat) : Int))) (req (Nat.blt 1 (List.length y1)) (((0, (0, (0, (0, 0)))), (((List.getD y1 1 (0, (⟨#[]⟩ : ByteArray))).1), false)) = y))) (∃ y4 : (Int × Int × Int × Int × Int) × Int × Bool, (never_R y3 y4) ∧ (y4 = y))))))) (curfewref07_Read0_j0 y1 a0 y))))) (curfewref07_Read0_j0 y1 a0 y)))
theorem q16m_t (a0 : ByteArray) (y : (Int × Int × Int × Int × Int) × Int × Bool) : acall q16m_ct okT lpT 60 (.fn 16 [] []) [(V.str a0)] [] (leafK B16m y) = curfewref07_Read0_F ipT a0 y := by kernel_rfl
theorem q16m_r (a0 : ByteArray) (y : (Int × Int × Int × Int × Int) × Int × Bool) : curfewref07_Read0_R a0 y → curfewref07_Read0_F ipT a0 y := by
  unfold curfewref07_Read0_R curfewref07_Read0_F
  refine MI.run ?_
  repeat' (first | intro _ | exact curfewref07_Read0_j0_r _ _ _ _ | with_reducible constructor)
abbrev r16m (x : A16m.den) (y : B16m.den) : Prop := curfewref07_Read0_R x y
theorem curfewref07_Read0_ok : FxOk Tryz.prog gsT 16 A16m B16m r16m := fo (c := q16m_ct) rfl rfl (Fns_assoc ⟨full_ent (c := q16m_cx) (ty_ok rfl) (eq_ok rfl) (Fns_assoc ⟨never16_ok, curfewref07_words_ok, curfewref07_Macro_ok, curfewref06_Read_ok, curfewref07_Of_ok, trivial⟩) follows_ok rfl okT q16m_lp (LpOk_tab ⟨q16m_0_ok, trivial⟩) 59 Tryz.func16 (by kernel_rfl) (by kernel_rfl) (by kernel_rfl), trivial⟩) (n := 60) (lp_ok) (enters Tryz.func16 (by kernel_rfl) rfl) (fun y => ⟨_, rfl⟩) fun x y h => Eq.mpr (q16m_t _ y) (q16m_r _ y h)
def e16m : Nat × Ent := (16, .fx A16m B16m r16m)
abbrev A16 : RT := (.one .str)
abbrev B16 : RT := (.tup (.cons (.agg (.cons (.int .u64) (.cons (.int .u64) (.cons (.int .u64) (.cons (.int .u64) (.one (.int .u64))))))) (.cons (.int .i64) (.one .bool))))
noncomputable def q16_cx : Cx := ⟨tyT, [e16m, e26, e27, e28, e29], gsT, eqT, false⟩
noncomputable def q16_0_body : Code := subC [1, 1, 1, 1, 0, 1, 0, 0] (bodyOf Tryz.f16)
abbrev curfewref07_Read_l0_Z : Type := (List (Int × ByteArray)) × Int × Int × Int × Int × Int × ByteArray × Int × Int
abbrev curfewref07_Read_l0_Y : Type := (Int) ⊕ (Int × Int × Int × Int × Int)
noncomputable def q16_0_k : LK := ⟨3, ⟨[(0, .w 6), (2, .ptr 0 0), (5, .row 1 2 (.z 0) (.q 0)), (7, .ptr 2 0), (53, .row 1 2 (.z 0) (.q 0)), (54, .w 7), (55, .w 8)], [.cells [.li .u64 0, .li .u64 0, .li .u64 0, .li .u64 0, .li .u64 0], .row (.pr (.int .i64) .str) (.z 0) 75 (.q 0), .cells [.w 1, .w 2, .w 3, .w 4, .w 5]], []⟩, [.sl (.pr (.int .i64) .str), .int .u64, .int .u64, .int .u64, .int .u64, .int .u64, .str, .int .i64, .int .i64], [.nat], [], [0, 6], [⟨.ret, ⟨[(2, .ptr 0 0), (3, .w 0), (4, .lb false)], [.cells [.li .u64 0, .li .u64 0, .li .u64 0, .li .u64 0, .li .u64 0], .dead, .dead], []⟩, [.int .i64], [], none⟩, ⟨(.exit 1), ⟨[(0, .e (.p 1)), (2, .ptr 0 0), (5, .row 1 2 (.p 0) (.p 2)), (7, .ptr 2 0)], [.cells [.li .u64 0, .li .u64 0, .li .u64 0, .li .u64 0, .li .u64 0], .row (.pr (.int .i64) .str) (.p 0) 75 (.p 2), .cells [.w 0, .w 1, .w 2, .w 3, .w 4]], []⟩, [.int .u64, .int .u64, .int .u64, .int .u64, .int .u64], [], none⟩]⟩
def curfewref07_Read_l0_F (i : Ip) (l : curfewref07_Read_l0_Z → curfewref07_Read_l0_Y → Prop) (z5x0 : List (Int × ByteArray)) (z5x1 z5x2 z5x3 z5x4 z5x5 : Int) (z5x6 : ByteArray) (z5x7 z5x8 : Int) (z5q0 : Nat) (y6_ : curfewref07_Read_l0_Y) : Prop :=
  (br (decide (z5x8 < z5x7)) (i.rq ((decide (0 ≤ z5x8)) && (decide (z5x8 < (((List.length z5x0) : Nat) : Int)))) (i.rq (Nat.blt (Int.toNat z5x8) (List.length z5x0)) (br (z5x8 == 5) (i.an 1 ((Sum.inl ((List.getD z5x0 (Int.toNat z5x8) (0, (⟨#[]⟩ : ByteArray))).1)) = y6_)) (∃ y7 : Int × Int × Int, (curfewref06_Read_R z5x8 ((List.getD z5x0 (Int.toNat z5x8) (0, (⟨#[]⟩ : ByteArray))).2) y7) ∧ (br ((y7.2.2) != 0) (i.an 1 ((Sum.inl (IntKind.wrap .i64 (((List.getD z5x0 (Int.toNat z5x8) (0, (⟨#[]⟩ : ByteArray))).1) + (y7.2.1)))) = y6_)) (i.rq ((decide (0 ≤ z5x8)) && (decide (z5x8 < 5))) (i.rq (Nat.blt (offN 0 z5x8 1) 5) (i.te [(V.row 1 2 (List.length z5x0) z5q0), (V.row 1 2 (List.length z5x0) z5q0)] [] (i.tq [(V.sl (.pr (.int .i64) .str) z5x0 none), (V.str z5x6), (V.yld z5q0)] (l (z5x0, (bif (Nat.beq (offN 0 z5x8 1) 0) then (y7.1) else z5x1), (bif (Nat.beq (offN 0 z5x8 1) 1) then (y7.1) else z5x2), (bif (Nat.beq (offN 0 z5x8 1) 2) then (y7.1) else z5x3), (bif (Nat.beq (offN 0 z5x8 1) 3) then (y7.1) else z5x4), (bif (Nat.beq (offN 0 z5x8 1) 4) then (y7.1) else z5x5), z5x6, z5x7, (IntKind.wrap .i64 (z5x8 + 1))) y6_)))))))))) (i.te [(V.sl (.pr (.int .i64) .str) z5x0 none), (V.yld z5q0), (V.str z5x6), (V.row 1 2 (List.length z5x0) z5q0)] [] ((Sum.inr (z5x1, z5x2, z5x3, z5x4, z5x5)) = y6_)))
def curfewref07_Read_l0 : Nat → curfewref07_Read_l0_Z → curfewref07_Read_l0_Y → Prop
  | 0, _, _ => False
  | k + 1, (z5x0, z5x1, z5x2, z5x3, z5x4, z5x5, z5x6, z5x7, z5x8), y6_ => (br (decide (z5x8 < z5x7)) (req ((decide (0 ≤ z5x8)) && (decide (z5x8 < (((List.length z5x0) : Nat) : Int)))) (req (Nat.blt (Int.toNat z5x8) (List.length z5x0)) (br (z5x8 == 5) ((Sum.inl ((List.getD z5x0 (Int.toNat z5x8) (0, (⟨#[]⟩ : ByteArray))).1)) = y6_) (∃ y7 : Int × Int × Int, (curfewref06_Read_R z5x8 ((List.getD z5x0 (Int.toNat z5x8) (0, (⟨#[]⟩ : ByteArray))).2) y7) ∧ (br ((y7.2.2) != 0) ((Sum.inl (IntKind.wrap .i64 (((List.getD z5x0 (Int.toNat z5x8) (0, (⟨#[]⟩ : ByteArray))).1) + (y7.2.1)))) = y6_) (req ((decide (0 ≤ z5x8)) && (decide (z5x8 < 5))) (req (Nat.blt (offN 0 z5x8 1) 5) (curfewref07_Read_l0 k (z5x0, (bif (Nat.beq (offN 0 z5x8 1) 0) then (y7.1) else z5x1), (bif (Nat.beq (offN 0 z5x8 1) 1) then (y7.1) else z5x2), (bif (Nat.beq (offN 0 z5x8 1) 2) then (y7.1) else z5x3), (bif (Nat.beq (offN 0 z5x8 1) 3) then (y7.1) else z5x4), (bif (Nat.beq (offN 0 z5x8 1) 4) then (y7.1) else z5x5), z5x6, z5x7, (IntKind.wrap .i64 (z5x8 + 1))) y6_)))))))) ((Sum.inr (z5x1, z5x2, z5x3, z5x4, z5x5)) = y6_))
def curfewref07_Read_l0_L (z : curfewref07_Read_l0_Z) (y : curfewref07_Read_l0_Y) : Prop := ∃ k, curfewref07_Read_l0 k z y
noncomputable def q16_0_lp : Lp := .auto none q16_0_body (loopK q16_0_k fun z y => ∃ k, curfewref07_Read_l0 k z y)
noncomputable def q16_lp : Nat → FuncId → Nat → Nat → Lp := lpTab [(16, 11, 3, 1, q16_0_lp)]
theorem q16_0_t (n k : Nat) (z5x0 : List (Int × ByteArray)) (z5x1 z5x2 z5x3 z5x4 z5x5 : Int) (z5x6 : ByteArray) (z5x7 z5x8 : Int) (z5q0 : Nat) (y6_ : curfewref07_Read_l0_Y) : rnd q16_cx okT q16_lp (n + 1) 16 none q16_0_body q16_0_k (curfewref07_Read_l0 k) (z5x0, z5x1, z5x2, z5x3, z5x4, z5x5, z5x6, z5x7, z5x8) z5q0 () y6_ = curfewref07_Read_l0_F ipT (fun z y => curfewref07_Read_l0 k z y) z5x0 z5x1 z5x2 z5x3 z5x4 z5x5 z5x6 z5x7 z5x8 z5q0 y6_ := by kernel_rfl
theorem q16_0_r (k : Nat) (z5x0 : List (Int × ByteArray)) (z5x1 z5x2 z5x3 z5x4 z5x5 : Int) (z5x6 : ByteArray) (z5x7 z5x8 : Int) (z5q0 : Nat) (y6_ : curfewref07_Read_l0_Y) : curfewref07_Read_l0 (k + 1) (z5x0, z5x1, z5x2, z5x3, z5x4, z5x5, z5x6, z5x7, z5x8) y6_ → curfewref07_Read_l0_F ipT (fun z y => curfewref07_Read_l0 k z y) z5x0 z5x1 z5x2 z5x3 z5x4 z5x5 z5x6 z5x7 z5x8 z5q0 y6_ := by
  unfold curfewref07_Read_l0_F
  intro h; simp only [curfewref07_Read_l0] at h; revert h
  refine MI.run ?_
  repeat' (first | intro _ | with_reducible constructor)
theorem q16_0_ok (n : Nat) : Owed q16_cx okT 16 q16_lp (n + 1) q16_0_lp := owed_rnd (lk := q16_0_k) (l := curfewref07_Read_l0) (fun z y h => h) fun k z q c y h => Eq.mpr (q16_0_t n k z.1 z.2.1 z.2.2.1 z.2.2.2.1 z.2.2.2.2.1 z.2.2.2.2.2.1 z.2.2.2.2.2.2.1 z.2.2.2.2.2.2.2.1 z.2.2.2.2.2.2.2.2 q y) (q16_0_r k z.1 z.2.1 z.2.2.1 z.2.2.2.1 z.2.2.2.2.1 z.2.2.2.2.2.1 z.2.2.2.2.2.2.1 z.2.2.2.2.2.2.2.1 z.2.2.2.2.2.2.2.2 q y h)
def curfewref07_Read_j0 (p0 : List (Int × ByteArray)) (p2 : ByteArray) (y : (Int × Int × Int × Int × Int) × Int × Bool) : Prop :=
  (∃ y9 : curfewref07_Read_l0_Y, curfewref07_Read_l0_L (p0, 0, 0, 0, 0, 0, p2, (((List.length p0) : Nat) : Int), 0) y9 ∧ sume (fun y9 => (((0, (0, (0, (0, 0)))), (y9, false)) = y)) (fun y9 => (br (decide ((((List.length p0) : Nat) : Int) < 5)) (((0, (0, (0, (0, 0)))), (((ByteArray.size p2 : Nat) : Int), false)) = y) (∃ y10 : Int × Int × Int × Int × Int, (curfewref07_Of_R (y9.1) (y9.2.1) (y9.2.2.1) (y9.2.2.2.1) (y9.2.2.2.2) y10) ∧ ((y10, (0, true)) = y)))) y9)
def curfewref07_Read_j0F (i : Ip) (p0 : List (Int × ByteArray)) (p1 : Nat) (p2 : ByteArray) (y : (Int × Int × Int × Int × Int) × Int × Bool) : Prop :=
  (i.lo none q16_0_body (i.te [(V.row 1 2 (List.length p0) p1), (V.row 1 2 (List.length p0) p1)] [] (∃ y9 : curfewref07_Read_l0_Y, curfewref07_Read_l0_L (p0, 0, 0, 0, 0, 0, p2, (((List.length p0) : Nat) : Int), 0) y9 ∧ sume (fun y9 => (((0, (0, (0, (0, 0)))), (y9, false)) = y)) (fun y9 => (br (decide ((((List.length p0) : Nat) : Int) < 5)) (((0, (0, (0, (0, 0)))), (((ByteArray.size p2 : Nat) : Int), false)) = y) (∃ y10 : Int × Int × Int × Int × Int, (curfewref07_Of_R (y9.1) (y9.2.1) (y9.2.2.1) (y9.2.2.2.1) (y9.2.2.2.2) y10) ∧ ((y10, (0, true)) = y)))) y9)))
theorem curfewref07_Read_j0_r (p0 : List (Int × ByteArray)) (p1 : Nat) (p2 : ByteArray) (y : (Int × Int × Int × Int × Int) × Int × Bool) : MI (curfewref07_Read_j0 p0 p2 y) (curfewref07_Read_j0F ipT p0 p1 p2 y) := by
  unfold curfewref07_Read_j0 curfewref07_Read_j0F
  repeat' (first | intro _ | with_reducible constructor)
noncomputable def q16_ct : Cx := ⟨tyT, [(16, .full (bodyG q16_cx okT q16_lp 59 16 Tryz.f16))], gsT, eqT, false⟩
def curfewref07_Read_F (i : Ip) (a0 : ByteArray) (y : (Int × Int × Int × Int × Int) × Int × Bool) : Prop :=
  (∃ y1 : List (Int × ByteArray), (curfewref07_words_R a0 y1) ∧ (i.cp (List.length y1) fun c2 hc2 => (br (decide ((((List.length y1) : Nat) : Int) > 0)) (i.r2 (decide (0 < (((List.length y1) : Nat) : Int))) (true && (decide (0 < (((List.length y1) : Nat) : Int)))) (fun q => (band rfl q)) (i.rq (Nat.blt 0 (List.length y1)) (i.r2 (decide (0 < ((ByteArray.size ((List.getD y1 0 (0, (⟨#[]⟩ : ByteArray))).2) : Nat) : Int))) (true && (decide (0 < ((ByteArray.size ((List.getD y1 0 (0, (⟨#[]⟩ : ByteArray))).2) : Nat) : Int)))) (fun q => (band rfl q)) (br ((((List.getD (Array.toList (ByteArray.data ((List.getD y1 0 (0, (⟨#[]⟩ : ByteArray))).2))) 0 0).toNat : Nat) : Int) == 64) (i.r2 (decide (0 < (((List.length y1) : Nat) : Int))) (true && (decide (0 < (((List.length y1) : Nat) : Int)))) (fun q => (band rfl q)) (i.rq (Nat.blt 0 (List.length y1)) (∃ y3 : ByteArray, (curfewref07_Macro_R ((List.getD y1 0 (0, (⟨#[]⟩ : ByteArray))).2) y3) ∧ (br (ByteArray.toList y3 == ByteArray.toList (⟨#[]⟩ : ByteArray)) (i.r2 (decide (0 < (((List.length y1) : Nat) : Int))) (true && (decide (0 < (((List.length y1) : Nat) : Int)))) (fun q => (band rfl q)) (i.an 1 (i.rq (Nat.blt 0 (List.length y1)) (((0, (0, (0, (0, 0)))), (((List.getD y1 0 (0, (⟨#[]⟩ : ByteArray))).1), false)) = y)))) (br (decide ((((List.length y1) : Nat) : Int) > 1)) (i.r2 (decide (1 < (((List.length y1) : Nat) : Int))) (true && (decide (1 < (((List.length y1) : Nat) : Int)))) (fun q => (band rfl q)) (i.an 1 (i.rq (Nat.blt 1 (List.length y1)) (((0, (0, (0, (0, 0)))), (((List.getD y1 1 (0, (⟨#[]⟩ : ByteArray))).1), false)) = y)))) (∃ y4 : (Int × Int × Int × Int × Int) × Int × Bool, (curfewref07_Read0_R y3 y4) ∧ (y4 = y))))))) (curfewref07_Read_j0F i y1 c2 a0 y))))) (curfewref07_Read_j0F i y1 c2 a0 y))))
def curfewref07_Read_R (a0 : ByteArray) (y : (Int × Int × Int × Int × Int) × Int × Bool) : Prop :=
  (∃ y1 : List (Int × ByteArray), (curfewref07_words_R a0 y1) ∧ (br (decide ((((List.length y1) : Nat) : Int) > 0)) (req (decide (0 < (((List.length y1) : Nat) : Int))) (req (Nat.blt 0 (List.length y1)) (req (decide (0 < ((ByteArray.size ((List.getD y1 0 (0, (⟨#[]⟩ : ByteArray))).2) : Nat) : Int))) (br ((((List.getD (Array.toList (ByteArray.data ((List.getD y1 0 (0, (⟨#[]⟩ : ByteArray))).2))) 0 0).toNat : Nat) : Int) == 64) (req (decide (0 < (((List.length y1) : Nat) : Int))) (req (Nat.blt 0 (List.length y1)) (∃ y3 : ByteArray, (curfewref07_Macro_R ((List.getD y1 0 (0, (⟨#[]⟩ : ByteArray))).2) y3) ∧ (br (ByteArray.toList y3 == ByteArray.toList (⟨#[]⟩ : ByteArray)) (req (decide (0 < (((List.length y1) : Nat) : Int))) (req (Nat.blt 0 (List.length y1)) (((0, (0, (0, (0, 0)))), (((List.getD y1 0 (0, (⟨#[]⟩ : ByteArray))).1), false)) = y))) (br (decide ((((List.length y1) : Nat) : Int) > 1)) (req (decide (1 < (((List.length y1) : Nat) : Int))) (req (Nat.blt 1 (List.length y1)) (((0, (0, (0, (0, 0)))), (((List.getD y1 1 (0, (⟨#[]⟩ : ByteArray))).1), false)) = y))) (∃ y4 : (Int × Int × Int × Int × Int) × Int × Bool, (curfewref07_Read0_R y3 y4) ∧ (y4 = y))))))) (curfewref07_Read_j0 y1 a0 y))))) (curfewref07_Read_j0 y1 a0 y)))
theorem q16_t (a0 : ByteArray) (y : (Int × Int × Int × Int × Int) × Int × Bool) : acall q16_ct okT lpT 60 (.fn 16 [] []) [(V.str a0)] [] (leafK B16 y) = curfewref07_Read_F ipT a0 y := by kernel_rfl
theorem q16_r (a0 : ByteArray) (y : (Int × Int × Int × Int × Int) × Int × Bool) : curfewref07_Read_R a0 y → curfewref07_Read_F ipT a0 y := by
  unfold curfewref07_Read_R curfewref07_Read_F
  refine MI.run ?_
  repeat' (first | intro _ | exact curfewref07_Read_j0_r _ _ _ _ | with_reducible constructor)
abbrev r16 (x : A16.den) (y : B16.den) : Prop := curfewref07_Read_R x y
theorem curfewref07_Read_ok : FxOk Tryz.prog gsT 16 A16 B16 r16 := fo (c := q16_ct) rfl rfl (Fns_assoc ⟨full_ent (c := q16_cx) (ty_ok rfl) (eq_ok rfl) (Fns_assoc ⟨curfewref07_Read0_ok, curfewref07_words_ok, curfewref07_Macro_ok, curfewref06_Read_ok, curfewref07_Of_ok, trivial⟩) follows_ok rfl okT q16_lp (LpOk_tab ⟨q16_0_ok, trivial⟩) 59 Tryz.func16 (by kernel_rfl) (by kernel_rfl) (by kernel_rfl), trivial⟩) (n := 60) (lp_ok) (enters Tryz.func16 (by kernel_rfl) rfl) (fun y => ⟨_, rfl⟩) fun x y h => Eq.mpr (q16_t _ y) (q16_r _ y h)
def e16 : Nat × Ent := (16, .fx A16 B16 r16)
noncomputable def c46 : Nat × Ent := (46, .body Tryz.f46)
theorem b46 {c : Cx} : EntOk Tryz.prog c 46 (.body Tryz.f46) := body_ent Tryz.func46 (by kernel_rfl) (by kernel_rfl)
abbrev A46 : RT := (.one (.agg (.cons (.int .u64) (.cons (.int .u64) (.cons (.int .u64) (.cons (.int .u64) (.one (.int .u64))))))))
abbrev B46 : RT := (.agg (.cons (.int .u64) (.cons (.int .u64) (.cons (.int .u64) (.cons (.int .u64) (.one (.int .u64)))))))
noncomputable def q46_cx : Cx := ⟨tyT, [c46], gsT, eqT, false⟩
def curfewref07_Fields_R (a0 a1 a2 a3 a4 : Int) (y : Int × Int × Int × Int × Int) : Prop :=
  ((a0, (a1, (a2, (a3, a4)))) = y)
theorem q46_t (a0 a1 a2 a3 a4 : Int) (y : Int × Int × Int × Int × Int) : acall q46_cx okT lpT 60 (.fn 46 [] []) [(V.agg [(vu a0), (vu a1), (vu a2), (vu a3), (vu a4)])] [] (leafK B46 y) = curfewref07_Fields_R a0 a1 a2 a3 a4 y := by kernel_rfl
abbrev r46 (x : A46.den) (y : B46.den) : Prop := curfewref07_Fields_R (x.1) (x.2.1) (x.2.2.1) (x.2.2.2.1) (x.2.2.2.2) y
theorem curfewref07_Fields_ok : FxOk Tryz.prog gsT 46 A46 B46 r46 := fo (c := q46_cx) rfl rfl (Fns_assoc ⟨b46, trivial⟩) (n := 60) (lp_ok) (enters Tryz.func46 (by kernel_rfl) rfl) (fun y => ⟨_, rfl⟩) fun x y h => Eq.mpr (q46_t _ _ _ _ _ y) h
def e46 : Nat × Ent := (46, .fx A46 B46 r46)
noncomputable def c83 : Nat × Ent := (83, .body Tryz.f83)
theorem b83 {c : Cx} : EntOk Tryz.prog c 83 (.body Tryz.f83) := body_ent Tryz.func83 (by kernel_rfl) (by kernel_rfl)
abbrev A83 : RT := (.one (.int .i64))
abbrev B83 : RT := (.int .u64)
noncomputable def q83_cx : Cx := ⟨tyT, [e76, e79, c83], gsT, eqT, false⟩
def curfewref06_Whole_R (a0 : Int) (y : Int) : Prop :=
  (∃ y1 : Int × Int, (curfewref06_Ends_R a0 y1) ∧ (∃ y2 : Int × Int, (curfewref06_Ends_R a0 y2) ∧ (∃ y3 : Int × Bool, (curfewref01_Span_R (y1.1) (y2.2) 1 y3) ∧ ((y3.1) = y))))
theorem q83_t (a0 : Int) (y : Int) : acall q83_cx okT lpT 60 (.fn 83 [] []) [(vi a0)] [] (leafK B83 y) = curfewref06_Whole_R a0 y := by kernel_rfl
abbrev r83 (x : A83.den) (y : B83.den) : Prop := curfewref06_Whole_R x y
theorem curfewref06_Whole_ok : FxOk Tryz.prog gsT 83 A83 B83 r83 := fo (c := q83_cx) rfl rfl (Fns_assoc ⟨curfewref06_Ends_ok, curfewref01_Span_ok, b83, trivial⟩) (n := 60) (lp_ok) (enters Tryz.func83 (by kernel_rfl) rfl) (fun y => ⟨_, rfl⟩) fun x y h => Eq.mpr (q83_t _ y) h
def e83 : Nat × Ent := (83, .fx A83 B83 r83)
noncomputable def c47 : Nat × Ent := (47, .body Tryz.f47)
theorem b47 {c : Cx} : EntOk Tryz.prog c 47 (.body Tryz.f47) := body_ent Tryz.func47 (by kernel_rfl) (by kernel_rfl)
abbrev A47 : RT := (.cons (.int .i64) (.one (.int .u64)))
abbrev B47 : RT := .bool
noncomputable def q47_cx : Cx := ⟨tyT, [c47, e80, e82, e83], gsT, eqT, false⟩
noncomputable def q47_0_body : Code := subC [1, 0, 1, 0, 0] (bodyOf Tryz.f47)
abbrev curfewref06_Right_l0_Z : Type := List Int × Int × Int × Int × Int
abbrev curfewref06_Right_l0_Y : Type := (Unit) ⊕ (Unit)
noncomputable def q47_0_k : LK := ⟨1, ⟨[(0, .w 1), (1, .w 2), (8, .row 0 1 (.z 0) (.q 0)), (9, .w 3), (10, .w 4)], [.row (.int .i64) (.z 0) 3 (.q 0)], []⟩, [.sl (.int .i64), .int .i64, .int .u64, .int .i64, .int .i64], [.nat], [], [2], [⟨.ret, ⟨[(4, .lb false)], [.dead], []⟩, [], [], none⟩, ⟨(.exit 0), ⟨[(1, .e (.p 0))], [.dead], []⟩, [], [], none⟩]⟩
def curfewref06_Right_l0_F (i : Ip) (l : curfewref06_Right_l0_Z → curfewref06_Right_l0_Y → Prop) (z3x0 : List Int) (z3x1 z3x2 z3x3 z3x4 : Int) (z3q0 : Nat) (y4_ : curfewref06_Right_l0_Y) : Prop :=
  (br (decide (z3x4 < z3x3)) (i.rq ((decide (0 ≤ z3x4)) && (decide (z3x4 < (((List.length z3x0) : Nat) : Int)))) (i.rq (Nat.blt (Int.toNat z3x4) (List.length z3x0)) (∃ y5 : Int, (curfewref06_Whole_R z3x1 y5) ∧ (∃ y6 : Bool, (curfewref01_Has_R y5 (List.getD z3x0 (Int.toNat z3x4) 0) y6) ∧ (br (!y6) ((Sum.inl ()) = y4_) (i.te [(V.row 0 1 (List.length z3x0) z3q0)] [] (i.tq [(vu z3x2), (V.yld z3q0)] (l (z3x0, z3x1, z3x2, z3x3, (IntKind.wrap .i64 (z3x4 + 1))) y4_)))))))) (i.te [(vu z3x2)] [] ((Sum.inr ()) = y4_)))
def curfewref06_Right_l0 : Nat → curfewref06_Right_l0_Z → curfewref06_Right_l0_Y → Prop
  | 0, _, _ => False
  | k + 1, (z3x0, z3x1, z3x2, z3x3, z3x4), y4_ => (br (decide (z3x4 < z3x3)) (req ((decide (0 ≤ z3x4)) && (decide (z3x4 < (((List.length z3x0) : Nat) : Int)))) (req (Nat.blt (Int.toNat z3x4) (List.length z3x0)) (∃ y5 : Int, (curfewref06_Whole_R z3x1 y5) ∧ (∃ y6 : Bool, (curfewref01_Has_R y5 (List.getD z3x0 (Int.toNat z3x4) 0) y6) ∧ (br (!y6) ((Sum.inl ()) = y4_) (curfewref06_Right_l0 k (z3x0, z3x1, z3x2, z3x3, (IntKind.wrap .i64 (z3x4 + 1))) y4_)))))) ((Sum.inr ()) = y4_))
def curfewref06_Right_l0_L (z : curfewref06_Right_l0_Z) (y : curfewref06_Right_l0_Y) : Prop := ∃ k, curfewref06_Right_l0 k z y
noncomputable def q47_0_lp : Lp := .auto none q47_0_body (loopK q47_0_k fun z y => ∃ k, curfewref06_Right_l0 k z y)
noncomputable def q47_lp : Nat → FuncId → Nat → Nat → Lp := lpTab [(47, 2, 1, 1, q47_0_lp)]
theorem q47_0_t (n k : Nat) (z3x0 : List Int) (z3x1 z3x2 z3x3 z3x4 : Int) (z3q0 : Nat) (y4_ : curfewref06_Right_l0_Y) : rnd q47_cx okT q47_lp (n + 1) 47 none q47_0_body q47_0_k (curfewref06_Right_l0 k) (z3x0, z3x1, z3x2, z3x3, z3x4) z3q0 () y4_ = curfewref06_Right_l0_F ipT (fun z y => curfewref06_Right_l0 k z y) z3x0 z3x1 z3x2 z3x3 z3x4 z3q0 y4_ := by kernel_rfl
theorem q47_0_r (k : Nat) (z3x0 : List Int) (z3x1 z3x2 z3x3 z3x4 : Int) (z3q0 : Nat) (y4_ : curfewref06_Right_l0_Y) : curfewref06_Right_l0 (k + 1) (z3x0, z3x1, z3x2, z3x3, z3x4) y4_ → curfewref06_Right_l0_F ipT (fun z y => curfewref06_Right_l0 k z y) z3x0 z3x1 z3x2 z3x3 z3x4 z3q0 y4_ := by
  unfold curfewref06_Right_l0_F
  intro h; simp only [curfewref06_Right_l0] at h; revert h
  refine MI.run ?_
  repeat' (first | intro _ | with_reducible constructor)
theorem q47_0_ok (n : Nat) : Owed q47_cx okT 47 q47_lp (n + 1) q47_0_lp := owed_rnd (lk := q47_0_k) (l := curfewref06_Right_l0) (fun z y h => h) fun k z q c y h => Eq.mpr (q47_0_t n k z.1 z.2.1 z.2.2.1 z.2.2.2.1 z.2.2.2.2 q y) (q47_0_r k z.1 z.2.1 z.2.2.1 z.2.2.2.1 z.2.2.2.2 q y h)
def curfewref06_Right_F (i : Ip) (a0 a1 : Int) (y : Bool) : Prop :=
  (∃ y1 : List Int, (curfewref01_All_R a1 y1) ∧ (i.cp (List.length y1) fun c2 hc2 => (i.lo none q47_0_body (i.te [(V.row 0 1 (List.length y1) c2)] [] (∃ y8 : curfewref06_Right_l0_Y, curfewref06_Right_l0_L (y1, a0, a1, (((List.length y1) : Nat) : Int), 0) y8 ∧ sume (fun y8 => (false = y)) (fun y8 => ((a1 != 0) = y)) y8)))))
def curfewref06_Right_R (a0 a1 : Int) (y : Bool) : Prop :=
  (∃ y1 : List Int, (curfewref01_All_R a1 y1) ∧ (∃ y8 : curfewref06_Right_l0_Y, curfewref06_Right_l0_L (y1, a0, a1, (((List.length y1) : Nat) : Int), 0) y8 ∧ sume (fun y8 => (false = y)) (fun y8 => ((a1 != 0) = y)) y8))
theorem q47_t (a0 a1 : Int) (y : Bool) : acall q47_cx okT q47_lp 60 (.fn 47 [] []) [(vi a0), (vu a1)] [] (leafK B47 y) = curfewref06_Right_F ipT a0 a1 y := by kernel_rfl
theorem q47_r (a0 a1 : Int) (y : Bool) : curfewref06_Right_R a0 a1 y → curfewref06_Right_F ipT a0 a1 y := by
  unfold curfewref06_Right_R curfewref06_Right_F
  refine MI.run ?_
  repeat' (first | intro _ | with_reducible constructor)
abbrev r47 (x : A47.den) (y : B47.den) : Prop := curfewref06_Right_R (x.1) (x.2) y
theorem curfewref06_Right_ok : FxOk Tryz.prog gsT 47 A47 B47 r47 := fo (c := q47_cx) rfl rfl (Fns_assoc ⟨b47, curfewref01_Has_ok, curfewref01_All_ok, curfewref06_Whole_ok, trivial⟩) (lp := q47_lp) (n := 60) (LpOk_tab ⟨q47_0_ok, trivial⟩) (enters Tryz.func47 (by kernel_rfl) rfl) (fun y => ⟨_, rfl⟩) fun x y h => Eq.mpr (q47_t _ _ y) (q47_r _ _ y h)
def e47 : Nat × Ent := (47, .fx A47 B47 r47)
noncomputable def c30 : Nat × Ent := (30, .body Tryz.f30)
theorem b30 {c : Cx} : EntOk Tryz.prog c 30 (.body Tryz.f30) := body_ent Tryz.func30 (by kernel_rfl) (by kernel_rfl)
abbrev A30 : RT := (.one (.agg (.cons (.int .u64) (.cons (.int .u64) (.cons (.int .u64) (.cons (.int .u64) (.one (.int .u64))))))))
abbrev B30 : RT := .bool
noncomputable def q30_cx : Cx := ⟨tyT, [c30, e46, e47], gsT, eqT, false⟩
noncomputable def q30_0_body : Code := subC [1, 0, 1, 0, 0] (bodyOf Tryz.f30)
abbrev curfewref07_Right_l0_Z : Type := Int × Int × Int × Int × Int × Int
abbrev curfewref07_Right_l0_Y : Type := (Unit) ⊕ (Unit)
noncomputable def q30_0_k : LK := ⟨1, ⟨[(6, .agg [.w 0, .w 1, .w 2, .w 3, .w 4]), (7, .w 5)], [.dead], []⟩, [.int .u64, .int .u64, .int .u64, .int .u64, .int .u64, .int .i64], [], [], [], [⟨.ret, ⟨[(2, .lb false)], [.dead], []⟩, [], [], none⟩, ⟨(.exit 0), ⟨[], [.dead], []⟩, [], [], none⟩]⟩
def curfewref07_Right_l0_F (i : Ip) (l : curfewref07_Right_l0_Z → curfewref07_Right_l0_Y → Prop) (z2x0 z2x1 z2x2 z2x3 z2x4 z2x5 : Int) (y3_ : curfewref07_Right_l0_Y) : Prop :=
  (br (decide (z2x5 < 5)) (i.rq (((decide (0 ≤ z2x5)) && (decide (z2x5 < 5))) && (Nat.blt ((Int.toNat z2x5) * 1) 5)) (∃ y4 : Bool, (curfewref06_Right_R z2x5 (List.getD ([z2x0, z2x1, z2x2, z2x3, z2x4] : List Int) ((Int.toNat z2x5) * 1) 0) y4) ∧ (br (!y4) ((Sum.inl ()) = y3_) (l (z2x0, z2x1, z2x2, z2x3, z2x4, (IntKind.wrap .i64 (z2x5 + 1))) y3_)))) ((Sum.inr ()) = y3_))
def curfewref07_Right_l0 : Nat → curfewref07_Right_l0_Z → curfewref07_Right_l0_Y → Prop
  | 0, _, _ => False
  | k + 1, (z2x0, z2x1, z2x2, z2x3, z2x4, z2x5), y3_ => (br (decide (z2x5 < 5)) (req (((decide (0 ≤ z2x5)) && (decide (z2x5 < 5))) && (Nat.blt ((Int.toNat z2x5) * 1) 5)) (∃ y4 : Bool, (curfewref06_Right_R z2x5 (List.getD ([z2x0, z2x1, z2x2, z2x3, z2x4] : List Int) ((Int.toNat z2x5) * 1) 0) y4) ∧ (br (!y4) ((Sum.inl ()) = y3_) (curfewref07_Right_l0 k (z2x0, z2x1, z2x2, z2x3, z2x4, (IntKind.wrap .i64 (z2x5 + 1))) y3_)))) ((Sum.inr ()) = y3_))
def curfewref07_Right_l0_L (z : curfewref07_Right_l0_Z) (y : curfewref07_Right_l0_Y) : Prop := ∃ k, curfewref07_Right_l0 k z y
noncomputable def q30_0_lp : Lp := .auto none q30_0_body (loopK q30_0_k fun z y => ∃ k, curfewref07_Right_l0 k z y)
noncomputable def q30_lp : Nat → FuncId → Nat → Nat → Lp := lpTab [(30, 2, 1, 1, q30_0_lp)]
theorem q30_0_t (n k : Nat) (z2x0 z2x1 z2x2 z2x3 z2x4 z2x5 : Int) (y3_ : curfewref07_Right_l0_Y) : rnd q30_cx okT q30_lp (n + 1) 30 none q30_0_body q30_0_k (curfewref07_Right_l0 k) (z2x0, z2x1, z2x2, z2x3, z2x4, z2x5) () () y3_ = curfewref07_Right_l0_F ipT (fun z y => curfewref07_Right_l0 k z y) z2x0 z2x1 z2x2 z2x3 z2x4 z2x5 y3_ := by kernel_rfl
theorem q30_0_r (k : Nat) (z2x0 z2x1 z2x2 z2x3 z2x4 z2x5 : Int) (y3_ : curfewref07_Right_l0_Y) : curfewref07_Right_l0 (k + 1) (z2x0, z2x1, z2x2, z2x3, z2x4, z2x5) y3_ → curfewref07_Right_l0_F ipT (fun z y => curfewref07_Right_l0 k z y) z2x0 z2x1 z2x2 z2x3 z2x4 z2x5 y3_ := by
  unfold curfewref07_Right_l0_F
  intro h; simp only [curfewref07_Right_l0] at h; revert h
  refine MI.run ?_
  repeat' (first | intro _ | with_reducible constructor)
theorem q30_0_ok (n : Nat) : Owed q30_cx okT 30 q30_lp (n + 1) q30_0_lp := owed_rnd (lk := q30_0_k) (l := curfewref07_Right_l0) (fun z y h => h) fun k z q c y h => Eq.mpr (q30_0_t n k z.1 z.2.1 z.2.2.1 z.2.2.2.1 z.2.2.2.2.1 z.2.2.2.2.2 y) (q30_0_r k z.1 z.2.1 z.2.2.1 z.2.2.2.1 z.2.2.2.2.1 z.2.2.2.2.2 y h)
def curfewref07_Right_F (i : Ip) (a0 a1 a2 a3 a4 : Int) (y : Bool) : Prop :=
  (∃ y1 : Int × Int × Int × Int × Int, (curfewref07_Fields_R a0 a1 a2 a3 a4 y1) ∧ (i.lo none q30_0_body (∃ y6 : curfewref07_Right_l0_Y, curfewref07_Right_l0_L ((y1.1), (y1.2.1), (y1.2.2.1), (y1.2.2.2.1), (y1.2.2.2.2), 0) y6 ∧ sume (fun y6 => (false = y)) (fun y6 => (true = y)) y6)))
def curfewref07_Right_R (a0 a1 a2 a3 a4 : Int) (y : Bool) : Prop :=
  (∃ y1 : Int × Int × Int × Int × Int, (curfewref07_Fields_R a0 a1 a2 a3 a4 y1) ∧ (∃ y6 : curfewref07_Right_l0_Y, curfewref07_Right_l0_L ((y1.1), (y1.2.1), (y1.2.2.1), (y1.2.2.2.1), (y1.2.2.2.2), 0) y6 ∧ sume (fun y6 => (false = y)) (fun y6 => (true = y)) y6))
theorem q30_t (a0 a1 a2 a3 a4 : Int) (y : Bool) : acall q30_cx okT q30_lp 60 (.fn 30 [] []) [(V.agg [(vu a0), (vu a1), (vu a2), (vu a3), (vu a4)])] [] (leafK B30 y) = curfewref07_Right_F ipT a0 a1 a2 a3 a4 y := by kernel_rfl
theorem q30_r (a0 a1 a2 a3 a4 : Int) (y : Bool) : curfewref07_Right_R a0 a1 a2 a3 a4 y → curfewref07_Right_F ipT a0 a1 a2 a3 a4 y := by
  unfold curfewref07_Right_R curfewref07_Right_F
  refine MI.run ?_
  repeat' (first | intro _ | with_reducible constructor)
abbrev r30 (x : A30.den) (y : B30.den) : Prop := curfewref07_Right_R (x.1) (x.2.1) (x.2.2.1) (x.2.2.2.1) (x.2.2.2.2) y
theorem curfewref07_Right_ok : FxOk Tryz.prog gsT 30 A30 B30 r30 := fo (c := q30_cx) rfl rfl (Fns_assoc ⟨b30, curfewref07_Fields_ok, curfewref06_Right_ok, trivial⟩) (lp := q30_lp) (n := 60) (LpOk_tab ⟨q30_0_ok, trivial⟩) (enters Tryz.func30 (by kernel_rfl) rfl) (fun y => ⟨_, rfl⟩) fun x y h => Eq.mpr (q30_t _ _ _ _ _ y) (q30_r _ _ _ _ _ y h)
def e30 : Nat × Ent := (30, .fx A30 B30 r30)
noncomputable def c124 : Nat × Ent := (124, .body Tryz.f124)
theorem b124 {c : Cx} : EntOk Tryz.prog c 124 (.body Tryz.f124) := body_ent Tryz.func124 (by kernel_rfl) (by kernel_rfl)
abbrev A124 : RT := (.one (.int .i64))
abbrev B124 : RT := .bool
noncomputable def q124_cx : Cx := ⟨tyT, [c124], gsT, eqT, false⟩
def curfewref04_Leap_R (a0 : Int) (y : Bool) : Prop :=
  (br ((Int.tmod a0 4) == 0) (br ((Int.tmod a0 100) != 0) (true = y) (((Int.tmod a0 400) == 0) = y)) (((Int.tmod a0 400) == 0) = y))
theorem q124_t (a0 : Int) (y : Bool) : acall q124_cx okT lpT 60 (.fn 124 [] []) [(vi a0)] [] (leafK B124 y) = curfewref04_Leap_R a0 y := by kernel_rfl
abbrev r124 (x : A124.den) (y : B124.den) : Prop := curfewref04_Leap_R x y
theorem curfewref04_Leap_ok : FxOk Tryz.prog gsT 124 A124 B124 r124 := fo (c := q124_cx) rfl rfl (Fns_assoc ⟨b124, trivial⟩) (n := 60) (lp_ok) (enters Tryz.func124 (by kernel_rfl) rfl) (fun y => ⟨_, rfl⟩) fun x y h => Eq.mpr (q124_t _ y) h
def e124 : Nat × Ent := (124, .fx A124 B124 r124)
noncomputable def c106 : Nat × Ent := (106, .body Tryz.f106)
theorem b106 {c : Cx} : EntOk Tryz.prog c 106 (.body Tryz.f106) := body_ent Tryz.func106 (by kernel_rfl) (by kernel_rfl)
abbrev A106 : RT := (.one (.int .i64))
abbrev B106 : RT := (.int .i64)
noncomputable def q106_cx : Cx := ⟨tyT, [c106, e124], gsT, eqT, false⟩
def curfewref04_year_R (a0 : Int) (y : Int) : Prop :=
  (∃ y1 : Bool, (curfewref04_Leap_R a0 y1) ∧ (br y1 (366 = y) (365 = y)))
theorem q106_t (a0 : Int) (y : Int) : acall q106_cx okT lpT 60 (.fn 106 [] []) [(vi a0)] [] (leafK B106 y) = curfewref04_year_R a0 y := by kernel_rfl
abbrev r106 (x : A106.den) (y : B106.den) : Prop := curfewref04_year_R x y
theorem curfewref04_year_ok : FxOk Tryz.prog gsT 106 A106 B106 r106 := fo (c := q106_cx) rfl rfl (Fns_assoc ⟨b106, curfewref04_Leap_ok, trivial⟩) (n := 60) (lp_ok) (enters Tryz.func106 (by kernel_rfl) rfl) (fun y => ⟨_, rfl⟩) fun x y h => Eq.mpr (q106_t _ y) h
def e106 : Nat × Ent := (106, .fx A106 B106 r106)
noncomputable def c107 : Nat × Ent := (107, .body Tryz.f107)
theorem b107 {c : Cx} : EntOk Tryz.prog c 107 (.body Tryz.f107) := body_ent Tryz.func107 (by kernel_rfl) (by kernel_rfl)
abbrev A107 : RT := (.cons (.int .i64) (.one (.int .i64)))
abbrev B107 : RT := (.int .i64)
noncomputable def q107_cx : Cx := ⟨tyT, [c107, e124], gsT, eqT, false⟩
def curfewref04_Long_j0 (p0 y : Int) : Prop :=
  (req (((decide (0 ≤ (IntKind.wrap .i64 (p0 - 1)))) && (decide ((IntKind.wrap .i64 (p0 - 1)) < 12))) && (Nat.blt ((Int.toNat (IntKind.wrap .i64 (p0 - 1))) * 1) 12)) ((List.getD ([31, 28, 31, 30, 31, 30, 31, 31, 30, 31, 30, 31] : List Int) ((Int.toNat (IntKind.wrap .i64 (p0 - 1))) * 1) 0) = y))
def curfewref04_Long_j0F (i : Ip) (p0 y : Int) : Prop :=
  (i.rq (((decide (0 ≤ (IntKind.wrap .i64 (p0 - 1)))) && (decide ((IntKind.wrap .i64 (p0 - 1)) < 12))) && (Nat.blt ((Int.toNat (IntKind.wrap .i64 (p0 - 1))) * 1) 12)) ((List.getD ([31, 28, 31, 30, 31, 30, 31, 31, 30, 31, 30, 31] : List Int) ((Int.toNat (IntKind.wrap .i64 (p0 - 1))) * 1) 0) = y))
theorem curfewref04_Long_j0_r (p0 y : Int) : MI (curfewref04_Long_j0 p0 y) (curfewref04_Long_j0F ipT p0 y) := by
  unfold curfewref04_Long_j0 curfewref04_Long_j0F
  repeat' (first | intro _ | with_reducible constructor)
def curfewref04_Long_F (i : Ip) (a0 a1 : Int) (y : Int) : Prop :=
  (br (decide (a1 < 1)) (0 = y) (br (decide (a1 > 12)) (0 = y) (br (a1 == 2) (∃ y1 : Bool, (curfewref04_Leap_R a0 y1) ∧ (br y1 (29 = y) (curfewref04_Long_j0F i a1 y))) (curfewref04_Long_j0F i a1 y))))
def curfewref04_Long_R (a0 a1 : Int) (y : Int) : Prop :=
  (br (decide (a1 < 1)) (0 = y) (br (decide (a1 > 12)) (0 = y) (br (a1 == 2) (∃ y1 : Bool, (curfewref04_Leap_R a0 y1) ∧ (br y1 (29 = y) (curfewref04_Long_j0 a1 y))) (curfewref04_Long_j0 a1 y))))
theorem q107_t (a0 a1 : Int) (y : Int) : acall q107_cx okT lpT 60 (.fn 107 [] []) [(vi a0), (vi a1)] [] (leafK B107 y) = curfewref04_Long_F ipT a0 a1 y := by kernel_rfl
theorem q107_r (a0 a1 : Int) (y : Int) : curfewref04_Long_R a0 a1 y → curfewref04_Long_F ipT a0 a1 y := by
  unfold curfewref04_Long_R curfewref04_Long_F
  refine MI.run ?_
  repeat' (first | intro _ | exact curfewref04_Long_j0_r _ _ | with_reducible constructor)
abbrev r107 (x : A107.den) (y : B107.den) : Prop := curfewref04_Long_R (x.1) (x.2) y
theorem curfewref04_Long_ok : FxOk Tryz.prog gsT 107 A107 B107 r107 := fo (c := q107_cx) rfl rfl (Fns_assoc ⟨b107, curfewref04_Leap_ok, trivial⟩) (n := 60) (lp_ok) (enters Tryz.func107 (by kernel_rfl) rfl) (fun y => ⟨_, rfl⟩) fun x y h => Eq.mpr (q107_t _ _ y) (q107_r _ _ y h)
def e107 : Nat × Ent := (107, .fx A107 B107 r107)
noncomputable def c84 : Nat × Ent := (84, .body Tryz.f84)
theorem b84 {c : Cx} : EntOk Tryz.prog c 84 (.body Tryz.f84) := body_ent Tryz.func84 (by kernel_rfl) (by kernel_rfl)
abbrev A84 : RT := (.one (.int .i64))
abbrev B84 : RT := (.agg (.cons (.int .i64) (.cons (.int .i64) (.one (.int .i64)))))
noncomputable def q84_cx : Cx := ⟨tyT, [c84, e106, e107], gsT, eqT, false⟩
noncomputable def q84_0_body : Code := subC [1, 1, 0, 0, 0] (bodyOf Tryz.f84)
abbrev curfewref04_At_l0_Z : Type := Int × Int
abbrev curfewref04_At_l0_Y : Type := Int × Int
noncomputable def q84_0_k : LK := ⟨2, ⟨[(0, .w 1), (2, .ptr 0 0), (3, .ptr 1 0)], [.cells [.li .i64 0, .li .i64 0, .li .i64 0], .cells [.w 0, .li .i64 1, .li .i64 0]], []⟩, [.int .i64, .int .i64], [], [], [], [⟨(.exit 0), ⟨[(0, .w 1), (2, .ptr 0 0), (3, .ptr 1 0)], [.cells [.li .i64 0, .li .i64 0, .li .i64 0], .cells [.w 0, .li .i64 1, .li .i64 0]], []⟩, [.int .i64, .int .i64], [], none⟩]⟩
def curfewref04_At_l0 : Nat → curfewref04_At_l0_Z → curfewref04_At_l0_Y → Prop
  | 0, _, _ => False
  | k + 1, (z1x0, z1x1), y2_ => (∃ y3 : Int, (curfewref04_year_R z1x0 y3) ∧ (br (decide (z1x1 ≥ y3)) (∃ y4 : Int, (curfewref04_year_R z1x0 y4) ∧ (curfewref04_At_l0 k ((IntKind.wrap .i64 (z1x0 + 1)), (IntKind.wrap .i64 (z1x1 - y4))) y2_)) ((z1x0, z1x1) = y2_)))
def curfewref04_At_l0_L (z : curfewref04_At_l0_Z) (y : curfewref04_At_l0_Y) : Prop := ∃ k, curfewref04_At_l0 k z y
noncomputable def q84_0_lp : Lp := .auto none q84_0_body (loopK q84_0_k fun z y => ∃ k, curfewref04_At_l0 k z y)
noncomputable def q84_1_body : Code := subC [1, 1, 1, 0, 0, 0] (bodyOf Tryz.f84)
abbrev curfewref04_At_l1_Z : Type := Int × Int × Int
abbrev curfewref04_At_l1_Y : Type := Int × Int
noncomputable def q84_1_k : LK := ⟨2, ⟨[(0, .w 2), (2, .ptr 0 0), (3, .ptr 1 0)], [.cells [.li .i64 0, .li .i64 0, .li .i64 0], .cells [.w 0, .w 1, .li .i64 0]], []⟩, [.int .i64, .int .i64, .int .i64], [], [], [0], [⟨(.exit 2), ⟨[(0, .w 1), (2, .ptr 0 0), (3, .ptr 1 0)], [.cells [.li .i64 0, .li .i64 0, .li .i64 0], .cells [.e (.p 0), .w 0, .li .i64 0]], []⟩, [.int .i64, .int .i64], [], none⟩]⟩
def curfewref04_At_l1_F (i : Ip) (l : curfewref04_At_l1_Z → curfewref04_At_l1_Y → Prop) (z7x0 z7x1 z7x2 : Int) (y8_ : curfewref04_At_l1_Y) : Prop :=
  (∃ y9 : Int, (curfewref04_Long_R z7x0 z7x1 y9) ∧ (br (decide (z7x2 ≥ y9)) (∃ y10 : Int, (curfewref04_Long_R z7x0 z7x1 y10) ∧ (i.tq [(vi z7x0)] (l (z7x0, (IntKind.wrap .i64 (z7x1 + 1)), (IntKind.wrap .i64 (z7x2 - y10))) y8_))) (i.te [(vi z7x0)] [] ((z7x1, z7x2) = y8_))))
def curfewref04_At_l1 : Nat → curfewref04_At_l1_Z → curfewref04_At_l1_Y → Prop
  | 0, _, _ => False
  | k + 1, (z7x0, z7x1, z7x2), y8_ => (∃ y9 : Int, (curfewref04_Long_R z7x0 z7x1 y9) ∧ (br (decide (z7x2 ≥ y9)) (∃ y10 : Int, (curfewref04_Long_R z7x0 z7x1 y10) ∧ (curfewref04_At_l1 k (z7x0, (IntKind.wrap .i64 (z7x1 + 1)), (IntKind.wrap .i64 (z7x2 - y10))) y8_)) ((z7x1, z7x2) = y8_)))
def curfewref04_At_l1_L (z : curfewref04_At_l1_Z) (y : curfewref04_At_l1_Y) : Prop := ∃ k, curfewref04_At_l1 k z y
noncomputable def q84_1_lp : Lp := .auto none q84_1_body (loopK q84_1_k fun z y => ∃ k, curfewref04_At_l1 k z y)
noncomputable def q84_lp : Nat → FuncId → Nat → Nat → Lp := lpTab [(84, 2, 2, 1, q84_0_lp), (84, 5, 2, 1, q84_1_lp)]
theorem q84_0_t (n k : Nat) (z1x0 z1x1 : Int) (y2_ : curfewref04_At_l0_Y) : rnd q84_cx okT q84_lp (n + 1) 84 none q84_0_body q84_0_k (curfewref04_At_l0 k) (z1x0, z1x1) () () y2_ = curfewref04_At_l0 (k + 1) (z1x0, z1x1) y2_ := by kernel_rfl
theorem q84_0_ok (n : Nat) : Owed q84_cx okT 84 q84_lp (n + 1) q84_0_lp := owed_rnd (lk := q84_0_k) (l := curfewref04_At_l0) (fun z y h => h) fun k z q c y h => Eq.mpr (q84_0_t n k z.1 z.2 y) h
theorem q84_1_t (n k : Nat) (z7x0 z7x1 z7x2 : Int) (y8_ : curfewref04_At_l1_Y) : rnd q84_cx okT q84_lp (n + 1) 84 none q84_1_body q84_1_k (curfewref04_At_l1 k) (z7x0, z7x1, z7x2) () () y8_ = curfewref04_At_l1_F ipT (fun z y => curfewref04_At_l1 k z y) z7x0 z7x1 z7x2 y8_ := by kernel_rfl
theorem q84_1_r (k : Nat) (z7x0 z7x1 z7x2 : Int) (y8_ : curfewref04_At_l1_Y) : curfewref04_At_l1 (k + 1) (z7x0, z7x1, z7x2) y8_ → curfewref04_At_l1_F ipT (fun z y => curfewref04_At_l1 k z y) z7x0 z7x1 z7x2 y8_ := by
  unfold curfewref04_At_l1_F
  intro h; simp only [curfewref04_At_l1] at h; revert h
  refine MI.run ?_
  repeat' (first | intro _ | with_reducible constructor)
theorem q84_1_ok (n : Nat) : Owed q84_cx okT 84 q84_lp (n + 1) q84_1_lp := owed_rnd (lk := q84_1_k) (l := curfewref04_At_l1) (fun z y h => h) fun k z q c y h => Eq.mpr (q84_1_t n k z.1 z.2.1 z.2.2 y) (q84_1_r k z.1 z.2.1 z.2.2 y h)
def curfewref04_At_F (i : Ip) (a0 : Int) (y : Int × Int × Int) : Prop :=
  (i.lo none q84_0_body (∃ y6 : curfewref04_At_l0_Y, curfewref04_At_l0_L (1970, a0) y6 ∧ (i.lo none q84_1_body (∃ y12 : curfewref04_At_l1_Y, curfewref04_At_l1_L ((y6.1), 1, (y6.2)) y12 ∧ (((y6.1), ((y12.1), (IntKind.wrap .i64 ((y12.2) + 1)))) = y)))))
def curfewref04_At_R (a0 : Int) (y : Int × Int × Int) : Prop :=
  (∃ y6 : curfewref04_At_l0_Y, curfewref04_At_l0_L (1970, a0) y6 ∧ (∃ y12 : curfewref04_At_l1_Y, curfewref04_At_l1_L ((y6.1), 1, (y6.2)) y12 ∧ (((y6.1), ((y12.1), (IntKind.wrap .i64 ((y12.2) + 1)))) = y)))
theorem q84_t (a0 : Int) (y : Int × Int × Int) : acall q84_cx okT q84_lp 60 (.fn 84 [] []) [(vi a0)] [] (leafK B84 y) = curfewref04_At_F ipT a0 y := by kernel_rfl
theorem q84_r (a0 : Int) (y : Int × Int × Int) : curfewref04_At_R a0 y → curfewref04_At_F ipT a0 y := by
  unfold curfewref04_At_R curfewref04_At_F
  refine MI.run ?_
  repeat' (first | intro _ | with_reducible constructor)
abbrev r84 (x : A84.den) (y : B84.den) : Prop := curfewref04_At_R x y
theorem curfewref04_At_ok : FxOk Tryz.prog gsT 84 A84 B84 r84 := fo (c := q84_cx) rfl rfl (Fns_assoc ⟨b84, curfewref04_year_ok, curfewref04_Long_ok, trivial⟩) (lp := q84_lp) (n := 60) (LpOk_tab ⟨q84_0_ok, q84_1_ok, trivial⟩) (enters Tryz.func84 (by kernel_rfl) rfl) (fun y => ⟨_, rfl⟩) fun x y h => Eq.mpr (q84_t _ y) (q84_r _ y h)
def e84 : Nat × Ent := (84, .fx A84 B84 r84)
noncomputable def c108 : Nat × Ent := (108, .body Tryz.f108)
theorem b108 {c : Cx} : EntOk Tryz.prog c 108 (.body Tryz.f108) := body_ent Tryz.func108 (by kernel_rfl) (by kernel_rfl)
abbrev A108 : RT := (.one (.int .i64))
abbrev B108 : RT := (.int .i64)
noncomputable def q108_cx : Cx := ⟨tyT, [c108], gsT, eqT, false⟩
def curfewref04_Weekday_R (a0 : Int) (y : Int) : Prop :=
  ((Int.tmod (IntKind.wrap .i64 ((Int.tmod a0 7) + 4)) 7) = y)
theorem q108_t (a0 : Int) (y : Int) : acall q108_cx okT lpT 60 (.fn 108 [] []) [(vi a0)] [] (leafK B108 y) = curfewref04_Weekday_R a0 y := by kernel_rfl
abbrev r108 (x : A108.den) (y : B108.den) : Prop := curfewref04_Weekday_R x y
theorem curfewref04_Weekday_ok : FxOk Tryz.prog gsT 108 A108 B108 r108 := fo (c := q108_cx) rfl rfl (Fns_assoc ⟨b108, trivial⟩) (n := 60) (lp_ok) (enters Tryz.func108 (by kernel_rfl) rfl) (fun y => ⟨_, rfl⟩) fun x y h => Eq.mpr (q108_t _ y) h
def e108 : Nat × Ent := (108, .fx A108 B108 r108)
noncomputable def c85 : Nat × Ent := (85, .body Tryz.f85)
theorem b85 {c : Cx} : EntOk Tryz.prog c 85 (.body Tryz.f85) := body_ent Tryz.func85 (by kernel_rfl) (by kernel_rfl)
abbrev A85 : RT := (.cons (.agg (.cons (.int .u64) (.cons (.int .u64) (.cons (.int .u64) (.cons (.int .u64) (.one (.int .u64))))))) (.cons (.agg (.cons (.int .i64) (.cons (.int .i64) (.one (.int .i64))))) (.one (.int .i64))))
abbrev B85 : RT := .bool
noncomputable def q85_cx : Cx := ⟨tyT, [e80, e82, c85, e108], gsT, eqT, false⟩
def curfewref08_fits_F (i : Ip) (a0 a1 a2 a3 a4 a5 a6 a7 a8 : Int) (y : Bool) : Prop :=
  (∃ y1 : Bool, (curfewref01_Has_R a3 a6 y1) ∧ (br (!y1) (false = y) (∃ y2 : Bool, (curfewref01_Has_R a2 a7 y2) ∧ (∃ y3 : Int, (curfewref04_Weekday_R a8 y3) ∧ (∃ y4 : Bool, (curfewref01_Has_R a4 y3 y4) ∧ (∃ y5 : List Int, (curfewref01_All_R a2 y5) ∧ (i.cp (List.length y5) fun c6 hc6 => (br ((((List.length y5) : Nat) : Int) == 31) (br y2 (y4 = y) (false = y)) (∃ y7 : List Int, (curfewref01_All_R a4 y7) ∧ (i.cp (List.length y7) fun c8 hc8 => (br ((((List.length y7) : Nat) : Int) == 7) (br y2 (y4 = y) (false = y)) (br y2 (true = y) (y4 = y)))))))))))))
def curfewref08_fits_R (a0 a1 a2 a3 a4 a5 a6 a7 a8 : Int) (y : Bool) : Prop :=
  (∃ y1 : Bool, (curfewref01_Has_R a3 a6 y1) ∧ (br (!y1) (false = y) (∃ y2 : Bool, (curfewref01_Has_R a2 a7 y2) ∧ (∃ y3 : Int, (curfewref04_Weekday_R a8 y3) ∧ (∃ y4 : Bool, (curfewref01_Has_R a4 y3 y4) ∧ (∃ y5 : List Int, (curfewref01_All_R a2 y5) ∧ (br ((((List.length y5) : Nat) : Int) == 31) (br y2 (y4 = y) (false = y)) (∃ y7 : List Int, (curfewref01_All_R a4 y7) ∧ (br ((((List.length y7) : Nat) : Int) == 7) (br y2 (y4 = y) (false = y)) (br y2 (true = y) (y4 = y)))))))))))
theorem q85_t (a0 a1 a2 a3 a4 a5 a6 a7 a8 : Int) (y : Bool) : acall q85_cx okT lpT 60 (.fn 85 [] []) [(V.agg [(vu a0), (vu a1), (vu a2), (vu a3), (vu a4)]), (V.agg [(vi a5), (vi a6), (vi a7)]), (vi a8)] [] (leafK B85 y) = curfewref08_fits_F ipT a0 a1 a2 a3 a4 a5 a6 a7 a8 y := by kernel_rfl
theorem q85_r (a0 a1 a2 a3 a4 a5 a6 a7 a8 : Int) (y : Bool) : curfewref08_fits_R a0 a1 a2 a3 a4 a5 a6 a7 a8 y → curfewref08_fits_F ipT a0 a1 a2 a3 a4 a5 a6 a7 a8 y := by
  unfold curfewref08_fits_R curfewref08_fits_F
  refine MI.run ?_
  repeat' (first | intro _ | with_reducible constructor)
abbrev r85 (x : A85.den) (y : B85.den) : Prop := curfewref08_fits_R (x.1.1) (x.1.2.1) (x.1.2.2.1) (x.1.2.2.2.1) (x.1.2.2.2.2) (x.2.1.1) (x.2.1.2.1) (x.2.1.2.2) (x.2.2) y
theorem curfewref08_fits_ok : FxOk Tryz.prog gsT 85 A85 B85 r85 := fo (c := q85_cx) rfl rfl (Fns_assoc ⟨curfewref01_Has_ok, curfewref01_All_ok, b85, curfewref04_Weekday_ok, trivial⟩) (n := 60) (lp_ok) (enters Tryz.func85 (by kernel_rfl) rfl) (fun y => ⟨_, rfl⟩) fun x y h => Eq.mpr (q85_t _ _ _ _ _ _ _ _ _ y) (q85_r _ _ _ _ _ _ _ _ _ y h)
def e85 : Nat × Ent := (85, .fx A85 B85 r85)
noncomputable def c86 : Nat × Ent := (86, .body Tryz.f86)
theorem b86 {c : Cx} : EntOk Tryz.prog c 86 (.body Tryz.f86) := body_ent Tryz.func86 (by kernel_rfl) (by kernel_rfl)
abbrev A86 : RT := (.one (.agg (.cons (.int .i64) (.cons (.int .i64) (.one (.int .i64))))))
abbrev B86 : RT := (.agg (.cons (.int .i64) (.cons (.int .i64) (.one (.int .i64)))))
noncomputable def q86_cx : Cx := ⟨tyT, [c86, e107], gsT, eqT, false⟩
def curfewref08_behind_R (a0 a1 a2 : Int) (y : Int × Int × Int) : Prop :=
  (∃ y1 : Int, (curfewref04_Long_R a0 a1 y1) ∧ (br (decide ((IntKind.wrap .i64 (a2 + 1)) > y1)) (br (decide ((IntKind.wrap .i64 (a1 + 1)) > 12)) (((IntKind.wrap .i64 (a0 + 1)), (1, 1)) = y) ((a0, ((IntKind.wrap .i64 (a1 + 1)), 1)) = y)) (br (decide (a1 > 12)) (((IntKind.wrap .i64 (a0 + 1)), (1, (IntKind.wrap .i64 (a2 + 1)))) = y) ((a0, (a1, (IntKind.wrap .i64 (a2 + 1)))) = y))))
theorem q86_t (a0 a1 a2 : Int) (y : Int × Int × Int) : acall q86_cx okT lpT 60 (.fn 86 [] []) [(V.agg [(vi a0), (vi a1), (vi a2)])] [] (leafK B86 y) = curfewref08_behind_R a0 a1 a2 y := by kernel_rfl
abbrev r86 (x : A86.den) (y : B86.den) : Prop := curfewref08_behind_R (x.1) (x.2.1) (x.2.2) y
theorem curfewref08_behind_ok : FxOk Tryz.prog gsT 86 A86 B86 r86 := fo (c := q86_cx) rfl rfl (Fns_assoc ⟨b86, curfewref04_Long_ok, trivial⟩) (n := 60) (lp_ok) (enters Tryz.func86 (by kernel_rfl) rfl) (fun y => ⟨_, rfl⟩) fun x y h => Eq.mpr (q86_t _ _ _ y) h
def e86 : Nat × Ent := (86, .fx A86 B86 r86)
noncomputable def c48 : Nat × Ent := (48, .body Tryz.f48)
theorem b48 {c : Cx} : EntOk Tryz.prog c 48 (.body Tryz.f48) := body_ent Tryz.func48 (by kernel_rfl) (by kernel_rfl)
abbrev A48 : RT := (.cons (.agg (.cons (.int .u64) (.cons (.int .u64) (.cons (.int .u64) (.cons (.int .u64) (.one (.int .u64))))))) (.cons (.int .i64) (.one (.int .i64))))
abbrev B48 : RT := (.nw (.int .i64) 3)
noncomputable def q48_cx : Cx := ⟨tyT, [c48, e84, e85, e86], gsT, eqT, false⟩
noncomputable def q48_0_body : Code := subC [1, 1, 1, 0, 1, 0, 0] (bodyOf Tryz.f48)
abbrev curfewref08_Fit_l0_Z : Type := List Int × Int × Int × Int × Int × Int × Int × Int × Int × Int × Int
abbrev curfewref08_Fit_l0_Y : Type := List Int
noncomputable def q48_0_k : LK := ⟨2, ⟨[(2, .w 9), (3, .ptr 0 0), (7, .row 2 1 (.z 0) (.c 0)), (8, .ptr 1 0), (9, .w 10)], [.cells [.w 1, .w 2, .w 3, .w 4, .w 5], .cells [.w 6, .w 7, .w 8], .row (.int .i64) (.z 0) 3 (.c 0)], []⟩, [.sl (.int .i64), .int .u64, .int .u64, .int .u64, .int .u64, .int .u64, .int .i64, .int .i64, .int .i64, .int .i64, .int .i64], [], [.nat], [], [⟨(.exit 0), ⟨[(7, .row 2 1 (.z 0) (.c 0))], [.dead, .dead, .row (.int .i64) (.z 0) 3 (.c 0)], []⟩, [.sl (.int .i64)], [.nat], none⟩]⟩
def curfewref08_Fit_l0_F (i : Ip) (l : curfewref08_Fit_l0_Z → curfewref08_Fit_l0_Y → Prop) (z2x0 : List Int) (z2x1 z2x2 z2x3 z2x4 z2x5 z2x6 z2x7 z2x8 z2x9 z2x10 : Int) (z2k0 : Nat) (y3_ : curfewref08_Fit_l0_Y) : Prop :=
  (br (decide (z2x10 ≤ z2x9)) (∃ y4 : Bool, (curfewref08_fits_R z2x1 z2x2 z2x3 z2x4 z2x5 z2x6 z2x7 z2x8 z2x10 y4) ∧ (br y4 (i.r2 (Nat.ble ((List.length (z2x0 ++ [z2x10])) * 9) 140737488355328) (((((true && true) && true) && (Nat.beq (List.length z2x0) (List.length z2x0))) && (Nat.beq z2k0 z2k0)) && (Nat.ble ((List.length (z2x0 ++ [z2x10])) * 9) 140737488355328)) (fun q => (band (band (band (band (band rfl rfl) rfl) (Nat.beq_refl _)) (Nat.beq_refl _)) q)) (i.cp (List.length (z2x0 ++ [z2x10])) fun c5 hc5 => (∃ y6 : Int × Int × Int, (curfewref08_behind_R z2x6 z2x7 z2x8 y6) ∧ (i.te [(V.row 2 1 (List.length (z2x0 ++ [z2x10])) c5)] [] (l ((z2x0 ++ [z2x10]), z2x1, z2x2, z2x3, z2x4, z2x5, (y6.1), (y6.2.1), (y6.2.2), z2x9, (IntKind.wrap .i64 (z2x10 + 1))) y3_))))) (∃ y7 : Int × Int × Int, (curfewref08_behind_R z2x6 z2x7 z2x8 y7) ∧ (i.te [(V.row 2 1 (List.length z2x0) z2k0)] [] (l (z2x0, z2x1, z2x2, z2x3, z2x4, z2x5, (y7.1), (y7.2.1), (y7.2.2), z2x9, (IntKind.wrap .i64 (z2x10 + 1))) y3_))))) (i.te [(V.row 2 1 (List.length z2x0) z2k0)] [] (z2x0 = y3_)))
def curfewref08_Fit_l0 : Nat → curfewref08_Fit_l0_Z → curfewref08_Fit_l0_Y → Prop
  | 0, _, _ => False
  | k + 1, (z2x0, z2x1, z2x2, z2x3, z2x4, z2x5, z2x6, z2x7, z2x8, z2x9, z2x10), y3_ => (br (decide (z2x10 ≤ z2x9)) (∃ y4 : Bool, (curfewref08_fits_R z2x1 z2x2 z2x3 z2x4 z2x5 z2x6 z2x7 z2x8 z2x10 y4) ∧ (br y4 (req (Nat.ble ((List.length (z2x0 ++ [z2x10])) * 9) 140737488355328) (∃ y6 : Int × Int × Int, (curfewref08_behind_R z2x6 z2x7 z2x8 y6) ∧ (curfewref08_Fit_l0 k ((z2x0 ++ [z2x10]), z2x1, z2x2, z2x3, z2x4, z2x5, (y6.1), (y6.2.1), (y6.2.2), z2x9, (IntKind.wrap .i64 (z2x10 + 1))) y3_))) (∃ y7 : Int × Int × Int, (curfewref08_behind_R z2x6 z2x7 z2x8 y7) ∧ (curfewref08_Fit_l0 k (z2x0, z2x1, z2x2, z2x3, z2x4, z2x5, (y7.1), (y7.2.1), (y7.2.2), z2x9, (IntKind.wrap .i64 (z2x10 + 1))) y3_)))) (z2x0 = y3_))
def curfewref08_Fit_l0_L (z : curfewref08_Fit_l0_Z) (y : curfewref08_Fit_l0_Y) : Prop := ∃ k, curfewref08_Fit_l0 k z y
noncomputable def q48_0_lp : Lp := .auto none q48_0_body (loopK q48_0_k fun z y => ∃ k, curfewref08_Fit_l0 k z y)
noncomputable def q48_lp : Nat → FuncId → Nat → Nat → Lp := lpTab [(48, 4, 2, 1, q48_0_lp)]
theorem q48_0_t (n k : Nat) (z2x0 : List Int) (z2x1 z2x2 z2x3 z2x4 z2x5 z2x6 z2x7 z2x8 z2x9 z2x10 : Int) (z2k0 : Nat) (y3_ : curfewref08_Fit_l0_Y) : rnd q48_cx okT q48_lp (n + 1) 48 none q48_0_body q48_0_k (curfewref08_Fit_l0 k) (z2x0, z2x1, z2x2, z2x3, z2x4, z2x5, z2x6, z2x7, z2x8, z2x9, z2x10) () z2k0 y3_ = curfewref08_Fit_l0_F ipT (fun z y => curfewref08_Fit_l0 k z y) z2x0 z2x1 z2x2 z2x3 z2x4 z2x5 z2x6 z2x7 z2x8 z2x9 z2x10 z2k0 y3_ := by kernel_rfl
theorem q48_0_r (k : Nat) (z2x0 : List Int) (z2x1 z2x2 z2x3 z2x4 z2x5 z2x6 z2x7 z2x8 z2x9 z2x10 : Int) (z2k0 : Nat) (y3_ : curfewref08_Fit_l0_Y) : curfewref08_Fit_l0 (k + 1) (z2x0, z2x1, z2x2, z2x3, z2x4, z2x5, z2x6, z2x7, z2x8, z2x9, z2x10) y3_ → curfewref08_Fit_l0_F ipT (fun z y => curfewref08_Fit_l0 k z y) z2x0 z2x1 z2x2 z2x3 z2x4 z2x5 z2x6 z2x7 z2x8 z2x9 z2x10 z2k0 y3_ := by
  unfold curfewref08_Fit_l0_F
  intro h; simp only [curfewref08_Fit_l0] at h; revert h
  refine MI.run ?_
  repeat' (first | intro _ | with_reducible constructor)
theorem q48_0_ok (n : Nat) : Owed q48_cx okT 48 q48_lp (n + 1) q48_0_lp := owed_rnd (lk := q48_0_k) (l := curfewref08_Fit_l0) (fun z y h => h) fun k z q c y h => Eq.mpr (q48_0_t n k z.1 z.2.1 z.2.2.1 z.2.2.2.1 z.2.2.2.2.1 z.2.2.2.2.2.1 z.2.2.2.2.2.2.1 z.2.2.2.2.2.2.2.1 z.2.2.2.2.2.2.2.2.1 z.2.2.2.2.2.2.2.2.2.1 z.2.2.2.2.2.2.2.2.2.2 c y) (q48_0_r k z.1 z.2.1 z.2.2.1 z.2.2.2.1 z.2.2.2.2.1 z.2.2.2.2.2.1 z.2.2.2.2.2.2.1 z.2.2.2.2.2.2.2.1 z.2.2.2.2.2.2.2.2.1 z.2.2.2.2.2.2.2.2.2.1 z.2.2.2.2.2.2.2.2.2.2 c y h)
def curfewref08_Fit_F (i : Ip) (a0 a1 a2 a3 a4 a5 a6 : Int) (y : List Int) : Prop :=
  (∃ y1 : Int × Int × Int, (curfewref04_At_R a5 y1) ∧ (i.lo none q48_0_body (i.te [(V.row 2 1 0 0)] [] (∃ y9 : curfewref08_Fit_l0_Y, curfewref08_Fit_l0_L ([], a0, a1, a2, a3, a4, (y1.1), (y1.2.1), (y1.2.2), a6, a5) y9 ∧ (i.cq [.nat] fun y9c => (i.tr (true && ((Nat.beq (List.length y9) (List.length y9)) && (Nat.beq y9c y9c))) (band rfl (band (Nat.beq_refl _) (Nat.beq_refl _))) (y9 = y)))))))
def curfewref08_Fit_R (a0 a1 a2 a3 a4 a5 a6 : Int) (y : List Int) : Prop :=
  (∃ y1 : Int × Int × Int, (curfewref04_At_R a5 y1) ∧ (∃ y9 : curfewref08_Fit_l0_Y, curfewref08_Fit_l0_L ([], a0, a1, a2, a3, a4, (y1.1), (y1.2.1), (y1.2.2), a6, a5) y9 ∧ (y9 = y)))
theorem q48_t (a0 a1 a2 a3 a4 a5 a6 : Int) (y : List Int) : acall q48_cx okT q48_lp 60 (.fn 48 [] []) [(V.agg [(vu a0), (vu a1), (vu a2), (vu a3), (vu a4)]), (vi a5), (vi a6)] [] (leafK B48 y) = curfewref08_Fit_F ipT a0 a1 a2 a3 a4 a5 a6 y := by kernel_rfl
theorem q48_r (a0 a1 a2 a3 a4 a5 a6 : Int) (y : List Int) : curfewref08_Fit_R a0 a1 a2 a3 a4 a5 a6 y → curfewref08_Fit_F ipT a0 a1 a2 a3 a4 a5 a6 y := by
  unfold curfewref08_Fit_R curfewref08_Fit_F
  refine MI.run ?_
  repeat' (first | intro _ | with_reducible constructor)
abbrev r48 (x : A48.den) (y : B48.den) : Prop := curfewref08_Fit_R (x.1.1) (x.1.2.1) (x.1.2.2.1) (x.1.2.2.2.1) (x.1.2.2.2.2) (x.2.1) (x.2.2) y
end Go.Proofs.YtjdpkihlgpojkaaGreatDoor
