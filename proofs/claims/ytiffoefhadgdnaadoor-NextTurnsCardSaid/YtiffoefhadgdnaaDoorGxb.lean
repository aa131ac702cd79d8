/- What Go functions come to (printed by gb.py). -/
import Derived.Test.YtiffoefhadgdnaaDoorGxa
namespace Go.Proofs.YtiffoefhadgdnaaDoor
open Go Go.B Go.RowKit
set_option linter.unusedVariables false
set_option linter.unusedSimpArgs false
set_option maxRecDepth 100000
attribute [local irreducible] Go.B.acall Go.B.acode
theorem next_Next_tree (a0 : Int) (a1 : Int) (a2 : Int) (a3 : Int) (a4 : Int) (a5 : Int) (y : Int × Bool) : acall next_Next_cx okT next_Next_lp 60 (.fn 17 [] []) [(V.agg [(V.int .u64 a0), (V.int .u64 a1), (V.int .u64 a2), (V.int .u64 a3), (V.int .u64 a4)]), (V.int .i64 a5)] [] (leafK (.tup (.cons (.int .i64) (.one .bool))) y) =
    (req true (req true ((req true ((req true ((req true (∃ y1 : Int, (next_of_R a5 y1) ∧ (req true (req true (req true (∃ y2 : Int, (cron_Check_R a0 a1 a2 a3 a4 y2) ∧ (req true (br (y2 != 0) ((req true (req true (req true (req true (req true ((0, false) = y)))))) ∧ (req true (req true (req true (req true (req true ((0, false) = y))))))) (req true (req true (req true (req true (req true (req true (((none : Option Nat) = (none : Option Nat)) ∧ (next_Next_l2_body = next_Next_l2_body) ∧ ∃ z19 : next_Next_l2_Z, ∃ z19q : next_Next_l2_Q, ∃ y20 : next_Next_l2_Y, (7 = 7) ∧ (∃ zc : next_Next_l2_C, wk 7 ⟨[(0, (V.agg [(V.int .u64 a0), (V.int .u64 a1), (V.int .u64 a2), (V.int .u64 a3), (V.int .u64 a4)])), (1, (V.int .i64 y1)), (2, (V.bool false)), (3, (V.fn 41 [] [(V.ptr 1 0)])), (4, (V.ptr 2 0)), (7, (V.ptr 3 0)), (8, (V.ptr 4 0)), (9, (V.ptr 5 0)), (14, (V.agg [(V.int .u64 a0), (V.int .u64 a1), (V.int .u64 a2), (V.int .u64 a3), (V.int .u64 a4)])), (15, (V.int .i64 y2)), (16, (V.bool (y2 != 0))), (17, (V.agg [(V.int .u64 a0), (V.int .u64 a1), (V.int .u64 a2), (V.int .u64 a3), (V.int .u64 a4)])), (18, (V.fn 105 [] [(V.ptr 6 0)])), (10, (V.fn 105 [] [(V.ptr 6 0)])), (19, (V.int .i64 0))], [(Blk.cells [(V.int .u64 a0), (V.int .u64 a1), (V.int .u64 a2), (V.int .u64 a3), (V.int .u64 a4)]), (Blk.cells [(V.int .i64 a5)]), (Blk.cells [(V.int .u64 a0), (V.int .u64 a1), (V.int .u64 a2), (V.int .u64 a3), (V.int .u64 a4)]), (Blk.cells [(V.fn 41 [] [(V.ptr 1 0)])]), (Blk.cells [(V.int .i64 0)]), (Blk.cells [(V.bool false)]), (Blk.cells [(V.int .u64 a0), (V.int .u64 a1), (V.int .u64 a2), (V.int .u64 a3), (V.int .u64 a4)])], []⟩ (next_Next_l2_st z19 z19q zc)) ∧ (∃ k, next_Next_l2 k z19 y20) ∧ ((req true ((req true ((req true (req true (req true (req true (req true (((y20.1), (y20.2)) = y)))))) ∧ (req true (req true (req true (req true (req true (((y20.1), (y20.2)) = y)))))))) ∧ (req true ((req true (req true (req true (req true (req true (((y20.1), (y20.2)) = y)))))) ∧ (req true (req true (req true (req true (req true (((y20.1), (y20.2)) = y)))))))))) ∧ (req true (req true ((req true (req true (req true (req true (req true (((y20.1), (y20.2)) = y)))))) ∧ (req true (req true (req true (req true (req true (((y20.1), (y20.2)) = y))))))))))))))))))))))))) ∧ (req true (req true (∃ y21 : Int, (next_of_R a5 y21) ∧ (req true (req true (∃ y22 : Int, (cron_Check_R a0 a1 a2 a3 a4 y22) ∧ (req true (br (y22 != 0) ((req true (req true (req true (req true (req true ((0, false) = y)))))) ∧ (req true (req true (req true (req true (req true ((0, false) = y))))))) (req true (req true (req true (req true (req true (req true (((none : Option Nat) = (none : Option Nat)) ∧ (next_Next_l2_body = next_Next_l2_body) ∧ ∃ z23 : next_Next_l2_Z, ∃ z23q : next_Next_l2_Q, ∃ y24 : next_Next_l2_Y, (7 = 7) ∧ (∃ zc : next_Next_l2_C, wk 7 ⟨[(0, (V.agg [(V.int .u64 a0), (V.int .u64 a1), (V.int .u64 a2), (V.int .u64 a3), (V.int .u64 a4)])), (1, (V.int .i64 y21)), (2, (V.bool false)), (3, (V.fn 41 [] [(V.ptr 1 0)])), (4, (V.ptr 2 0)), (7, (V.ptr 3 0)), (8, (V.ptr 4 0)), (9, (V.ptr 5 0)), (14, (V.agg [(V.int .u64 a0), (V.int .u64 a1), (V.int .u64 a2), (V.int .u64 a3), (V.int .u64 a4)])), (15, (V.int .i64 y22)), (16, (V.bool (y22 != 0))), (17, (V.agg [(V.int .u64 a0), (V.int .u64 a1), (V.int .u64 a2), (V.int .u64 a3), (V.int .u64 a4)])), (18, (V.fn 105 [] [(V.ptr 6 0)])), (10, (V.fn 105 [] [(V.ptr 6 0)])), (19, (V.int .i64 0))], [(Blk.cells [(V.int .u64 a0), (V.int .u64 a1), (V.int .u64 a2), (V.int .u64 a3), (V.int .u64 a4)]), (Blk.cells [(V.int .i64 a5)]), (Blk.cells [(V.int .u64 a0), (V.int .u64 a1), (V.int .u64 a2), (V.int .u64 a3), (V.int .u64 a4)]), (Blk.cells [(V.fn 41 [] [(V.ptr 1 0)])]), (Blk.cells [(V.int .i64 0)]), (Blk.cells [(V.bool false)]), (Blk.cells [(V.int .u64 a0), (V.int .u64 a1), (V.int .u64 a2), (V.int .u64 a3), (V.int .u64 a4)])], []⟩ (next_Next_l2_st z23 z23q zc)) ∧ (∃ k, next_Next_l2 k z23 y24) ∧ ((req true ((req true ((req true (req true (req true (req true (req true (((y24.1), (y24.2)) = y)))))) ∧ (req true (req true (req true (req true (req true (((y24.1), (y24.2)) = y)))))))) ∧ (req true ((req true (req true (req true (req true (req true (((y24.1), (y24.2)) = y)))))) ∧ (req true (req true (req true (req true (req true (((y24.1), (y24.2)) = y)))))))))) ∧ (req true (req true ((req true (req true (req true (req true (req true (((y24.1), (y24.2)) = y)))))) ∧ (req true (req true (req true (req true (req true (((y24.1), (y24.2)) = y))))))))))))))))))))))))))) ∧ (req true (req true (req true (∃ y25 : Int, (next_of_R a5 y25) ∧ (req true (req true (∃ y26 : Int, (cron_Check_R a0 a1 a2 a3 a4 y26) ∧ (req true (br (y26 != 0) ((req true (req true (req true (req true (req true ((0, false) = y)))))) ∧ (req true (req true (req true (req true (req true ((0, false) = y))))))) (req true (req true (req true (req true (req true (req true (((none : Option Nat) = (none : Option Nat)) ∧ (next_Next_l2_body = next_Next_l2_body) ∧ ∃ z27 : next_Next_l2_Z, ∃ z27q : next_Next_l2_Q, ∃ y28 : next_Next_l2_Y, (7 = 7) ∧ (∃ zc : next_Next_l2_C, wk 7 ⟨[(0, (V.agg [(V.int .u64 a0), (V.int .u64 a1), (V.int .u64 a2), (V.int .u64 a3), (V.int .u64 a4)])), (1, (V.int .i64 y25)), (2, (V.bool false)), (3, (V.fn 41 [] [(V.ptr 1 0)])), (4, (V.ptr 2 0)), (7, (V.ptr 3 0)), (8, (V.ptr 4 0)), (9, (V.ptr 5 0)), (14, (V.agg [(V.int .u64 a0), (V.int .u64 a1), (V.int .u64 a2), (V.int .u64 a3), (V.int .u64 a4)])), (15, (V.int .i64 y26)), (16, (V.bool (y26 != 0))), (17, (V.agg [(V.int .u64 a0), (V.int .u64 a1), (V.int .u64 a2), (V.int .u64 a3), (V.int .u64 a4)])), (18, (V.fn 105 [] [(V.ptr 6 0)])), (10, (V.fn 105 [] [(V.ptr 6 0)])), (19, (V.int .i64 0))], [(Blk.cells [(V.int .u64 a0), (V.int .u64 a1), (V.int .u64 a2), (V.int .u64 a3), (V.int .u64 a4)]), (Blk.cells [(V.int .i64 a5)]), (Blk.cells [(V.int .u64 a0), (V.int .u64 a1), (V.int .u64 a2), (V.int .u64 a3), (V.int .u64 a4)]), (Blk.cells [(V.fn 41 [] [(V.ptr 1 0)])]), (Blk.cells [(V.int .i64 0)]), (Blk.cells [(V.bool false)]), (Blk.cells [(V.int .u64 a0), (V.int .u64 a1), (V.int .u64 a2), (V.int .u64 a3), (V.int .u64 a4)])], []⟩ (next_Next_l2_st z27 z27q zc)) ∧ (∃ k, next_Next_l2 k z27 y28) ∧ ((req true ((req true ((req true (req true (req true (req true (req true (((y28.1), (y28.2)) = y)))))) ∧ (req true (req true (req true (req true (req true (((y28.1), (y28.2)) = y)))))))) ∧ (req true ((req true (req true (req true (req true (req true (((y28.1), (y28.2)) = y)))))) ∧ (req true (req true (req true (req true (req true (((y28.1), (y28.2)) = y)))))))))) ∧ (req true (req true ((req true (req true (req true (req true (req true (((y28.1), (y28.2)) = y)))))) ∧ (req true (req true (req true (req true (req true (((y28.1), (y28.2)) = y)))))))))))))))))))))))))))) ∧ (req true ((req true ((req true (∃ y29 : Int, (next_of_R a5 y29) ∧ (req true (req true (req true (∃ y30 : Int, (cron_Check_R a0 a1 a2 a3 a4 y30) ∧ (req true (br (y30 != 0) ((req true (req true (req true (req true (req true ((0, false) = y)))))) ∧ (req true (req true (req true (req true (req true ((0, false) = y))))))) (req true (req true (req true (req true (req true (req true (((none : Option Nat) = (none : Option Nat)) ∧ (next_Next_l2_body = next_Next_l2_body) ∧ ∃ z31 : next_Next_l2_Z, ∃ z31q : next_Next_l2_Q, ∃ y32 : next_Next_l2_Y, (7 = 7) ∧ (∃ zc : next_Next_l2_C, wk 7 ⟨[(0, (V.agg [(V.int .u64 a0), (V.int .u64 a1), (V.int .u64 a2), (V.int .u64 a3), (V.int .u64 a4)])), (1, (V.int .i64 y29)), (2, (V.bool false)), (3, (V.fn 41 [] [(V.ptr 1 0)])), (4, (V.ptr 2 0)), (7, (V.ptr 3 0)), (8, (V.ptr 4 0)), (9, (V.ptr 5 0)), (14, (V.agg [(V.int .u64 a0), (V.int .u64 a1), (V.int .u64 a2), (V.int .u64 a3), (V.int .u64 a4)])), (15, (V.int .i64 y30)), (16, (V.bool (y30 != 0))), (17, (V.agg [(V.int .u64 a0), (V.int .u64 a1), (V.int .u64 a2), (V.int .u64 a3), (V.int .u64 a4)])), (18, (V.fn 105 [] [(V.ptr 6 0)])), (10, (V.fn 105 [] [(V.ptr 6 0)])), (19, (V.int .i64 0))], [(Blk.cells [(V.int .u64 a0), (V.int .u64 a1), (V.int .u64 a2), (V.int .u64 a3), (V.int .u64 a4)]), (Blk.cells [(V.int .i64 a5)]), (Blk.cells [(V.int .u64 a0), (V.int .u64 a1), (V.int .u64 a2), (V.int .u64 a3), (V.int .u64 a4)]), (Blk.cells [(V.fn 41 [] [(V.ptr 1 0)])]), (Blk.cells [(V.int .i64 0)]), (Blk.cells [(V.bool false)]), (Blk.cells [(V.int .u64 a0), (V.int .u64 a1), (V.int .u64 a2), (V.int .u64 a3), (V.int .u64 a4)])], []⟩ (next_Next_l2_st z31 z31q zc)) ∧ (∃ k, next_Next_l2 k z31 y32) ∧ ((req true ((req true ((req true (req true (req true (req true (req true (((y32.1), (y32.2)) = y)))))) ∧ (req true (req true (req true (req true (req true (((y32.1), (y32.2)) = y)))))))) ∧ (req true ((req true (req true (req true (req true (req true (((y32.1), (y32.2)) = y)))))) ∧ (req true (req true (req true (req true (req true (((y32.1), (y32.2)) = y)))))))))) ∧ (req true (req true ((req true (req true (req true (req true (req true (((y32.1), (y32.2)) = y)))))) ∧ (req true (req true (req true (req true (req true (((y32.1), (y32.2)) = y))))))))))))))))))))))))) ∧ (req true (req true (∃ y33 : Int, (next_of_R a5 y33) ∧ (req true (req true (∃ y34 : Int, (cron_Check_R a0 a1 a2 a3 a4 y34) ∧ (req true (br (y34 != 0) ((req true (req true (req true (req true (req true ((0, false) = y)))))) ∧ (req true (req true (req true (req true (req true ((0, false) = y))))))) (req true (req true (req true (req true (req true (req true (((none : Option Nat) = (none : Option Nat)) ∧ (next_Next_l2_body = next_Next_l2_body) ∧ ∃ z35 : next_Next_l2_Z, ∃ z35q : next_Next_l2_Q, ∃ y36 : next_Next_l2_Y, (7 = 7) ∧ (∃ zc : next_Next_l2_C, wk 7 ⟨[(0, (V.agg [(V.int .u64 a0), (V.int .u64 a1), (V.int .u64 a2), (V.int .u64 a3), (V.int .u64 a4)])), (1, (V.int .i64 y33)), (2, (V.bool false)), (3, (V.fn 41 [] [(V.ptr 1 0)])), (4, (V.ptr 2 0)), (7, (V.ptr 3 0)), (8, (V.ptr 4 0)), (9, (V.ptr 5 0)), (14, (V.agg [(V.int .u64 a0), (V.int .u64 a1), (V.int .u64 a2), (V.int .u64 a3), (V.int .u64 a4)])), (15, (V.int .i64 y34)), (16, (V.bool (y34 != 0))), (17, (V.agg [(V.int .u64 a0), (V.int .u64 a1), (V.int .u64 a2), (V.int .u64 a3), (V.int .u64 a4)])), (18, (V.fn 105 [] [(V.ptr 6 0)])), (10, (V.fn 105 [] [(V.ptr 6 0)])), (19, (V.int .i64 0))], [(Blk.cells [(V.int .u64 a0), (V.int .u64 a1), (V.int .u64 a2), (V.int .u64 a3), (V.int .u64 a4)]), (Blk.cells [(V.int .i64 a5)]), (Blk.cells [(V.int .u64 a0), (V.int .u64 a1), (V.int .u64 a2), (V.int .u64 a3), (V.int .u64 a4)]), (Blk.cells [(V.fn 41 [] [(V.ptr 1 0)])]), (Blk.cells [(V.int .i64 0)]), (Blk.cells [(V.bool false)]), (Blk.cells [(V.int .u64 a0), (V.int .u64 a1), (V.int .u64 a2), (V.int .u64 a3), (V.int .u64 a4)])], []⟩ (next_Next_l2_st z35 z35q zc)) ∧ (∃ k, next_Next_l2 k z35 y36) ∧ ((req true ((req true ((req true (req true (req true (req true (req true (((y36.1), (y36.2)) = y)))))) ∧ (req true (req true (req true (req true (req true (((y36.1), (y36.2)) = y)))))))) ∧ (req true ((req true (req true (req true (req true (req true (((y36.1), (y36.2)) = y)))))) ∧ (req true (req true (req true (req true (req true (((y36.1), (y36.2)) = y)))))))))) ∧ (req true (req true ((req true (req true (req true (req true (req true (((y36.1), (y36.2)) = y)))))) ∧ (req true (req true (req true (req true (req true (((y36.1), (y36.2)) = y))))))))))))))))))))))))))) ∧ (req true (∃ y37 : Int, (next_of_R a5 y37) ∧ ((req true (req true (req true (req true (∃ y38 : Int, (cron_Check_R a0 a1 a2 a3 a4 y38) ∧ (req true (br (y38 != 0) ((req true (req true (req true (req true (req true ((0, false) = y)))))) ∧ (req true (req true (req true (req true (req true ((0, false) = y))))))) (req true (req true (req true (req true (req true (req true (((none : Option Nat) = (none : Option Nat)) ∧ (next_Next_l2_body = next_Next_l2_body) ∧ ∃ z39 : next_Next_l2_Z, ∃ z39q : next_Next_l2_Q, ∃ y40 : next_Next_l2_Y, (7 = 7) ∧ (∃ zc : next_Next_l2_C, wk 7 ⟨[(0, (V.agg [(V.int .u64 a0), (V.int .u64 a1), (V.int .u64 a2), (V.int .u64 a3), (V.int .u64 a4)])), (1, (V.int .i64 y37)), (2, (V.bool false)), (3, (V.fn 41 [] [(V.ptr 1 0)])), (4, (V.ptr 2 0)), (7, (V.ptr 3 0)), (8, (V.ptr 4 0)), (9, (V.ptr 5 0)), (14, (V.agg [(V.int .u64 a0), (V.int .u64 a1), (V.int .u64 a2), (V.int .u64 a3), (V.int .u64 a4)])), (15, (V.int .i64 y38)), (16, (V.bool (y38 != 0))), (17, (V.agg [(V.int .u64 a0), (V.int .u64 a1), (V.int .u64 a2), (V.int .u64 a3), (V.int .u64 a4)])), (18, (V.fn 105 [] [(V.ptr 6 0)])), (10, (V.fn 105 [] [(V.ptr 6 0)])), (19, (V.int .i64 0))], [(Blk.cells [(V.int .u64 a0), (V.int .u64 a1), (V.int .u64 a2), (V.int .u64 a3), (V.int .u64 a4)]), (Blk.cells [(V.int .i64 a5)]), (Blk.cells [(V.int .u64 a0), (V.int .u64 a1), (V.int .u64 a2), (V.int .u64 a3), (V.int .u64 a4)]), (Blk.cells [(V.fn 41 [] [(V.ptr 1 0)])]), (Blk.cells [(V.int .i64 0)]), (Blk.cells [(V.bool false)]), (Blk.cells [(V.int .u64 a0), (V.int .u64 a1), (V.int .u64 a2), (V.int .u64 a3), (V.int .u64 a4)])], []⟩ (next_Next_l2_st z39 z39q zc)) ∧ (∃ k, next_Next_l2 k z39 y40) ∧ ((req true ((req true ((req true (req true (req true (req true (req true (((y40.1), (y40.2)) = y)))))) ∧ (req true (req true (req true (req true (req true (((y40.1), (y40.2)) = y)))))))) ∧ (req true ((req true (req true (req true (req true (req true (((y40.1), (y40.2)) = y)))))) ∧ (req true (req true (req true (req true (req true (((y40.1), (y40.2)) = y)))))))))) ∧ (req true (req true ((req true (req true (req true (req true (req true (((y40.1), (y40.2)) = y)))))) ∧ (req true (req true (req true (req true (req true (((y40.1), (y40.2)) = y)))))))))))))))))))))))) ∧ (req true (req true (req true (req true (∃ y41 : Int, (cron_Check_R a0 a1 a2 a3 a4 y41) ∧ (req true (br (y41 != 0) ((req true (req true (req true (req true (req true ((0, false) = y)))))) ∧ (req true (req true (req true (req true (req true ((0, false) = y))))))) (req true (req true (req true (req true (req true (req true (((none : Option Nat) = (none : Option Nat)) ∧ (next_Next_l2_body = next_Next_l2_body) ∧ ∃ z42 : next_Next_l2_Z, ∃ z42q : next_Next_l2_Q, ∃ y43 : next_Next_l2_Y, (7 = 7) ∧ (∃ zc : next_Next_l2_C, wk 7 ⟨[(0, (V.agg [(V.int .u64 a0), (V.int .u64 a1), (V.int .u64 a2), (V.int .u64 a3), (V.int .u64 a4)])), (1, (V.int .i64 y37)), (2, (V.bool false)), (3, (V.fn 41 [] [(V.ptr 1 0)])), (4, (V.ptr 2 0)), (7, (V.ptr 3 0)), (8, (V.ptr 4 0)), (9, (V.ptr 5 0)), (14, (V.agg [(V.int .u64 a0), (V.int .u64 a1), (V.int .u64 a2), (V.int .u64 a3), (V.int .u64 a4)])), (15, (V.int .i64 y41)), (16, (V.bool (y41 != 0))), (17, (V.agg [(V.int .u64 a0), (V.int .u64 a1), (V.int .u64 a2), (V.int .u64 a3), (V.int .u64 a4)])), (18, (V.fn 105 [] [(V.ptr 6 0)])), (10, (V.fn 105 [] [(V.ptr 6 0)])), (19, (V.int .i64 0))], [(Blk.cells [(V.int .u64 a0), (V.int .u64 a1), (V.int .u64 a2), (V.int .u64 a3), (V.int .u64 a4)]), (Blk.cells [(V.int .i64 a5)]), (Blk.cells [(V.int .u64 a0), (V.int .u64 a1), (V.int .u64 a2), (V.int .u64 a3), (V.int .u64 a4)]), (Blk.cells [(V.fn 41 [] [(V.ptr 1 0)])]), (Blk.cells [(V.int .i64 0)]), (Blk.cells [(V.bool false)]), (Blk.cells [(V.int .u64 a0), (V.int .u64 a1), (V.int .u64 a2), (V.int .u64 a3), (V.int .u64 a4)])], []⟩ (next_Next_l2_st z42 z42q zc)) ∧ (∃ k, next_Next_l2 k z42 y43) ∧ ((req true ((req true ((req true (req true (req true (req true (req true (((y43.1), (y43.2)) = y)))))) ∧ (req true (req true (req true (req true (req true (((y43.1), (y43.2)) = y)))))))) ∧ (req true ((req true (req true (req true (req true (req true (((y43.1), (y43.2)) = y)))))) ∧ (req true (req true (req true (req true (req true (((y43.1), (y43.2)) = y)))))))))) ∧ (req true (req true ((req true (req true (req true (req true (req true (((y43.1), (y43.2)) = y)))))) ∧ (req true (req true (req true (req true (req true (((y43.1), (y43.2)) = y))))))))))))))))))))))))))) ∧ (req true ((req true (req true (∃ y44 : Int, (next_of_R a5 y44) ∧ (req true (req true (∃ y45 : Int, (cron_Check_R a0 a1 a2 a3 a4 y45) ∧ (req true (br (y45 != 0) ((req true (req true (req true (req true (req true ((0, false) = y)))))) ∧ (req true (req true (req true (req true (req true ((0, false) = y))))))) (req true (req true (req true (req true (req true (req true (((none : Option Nat) = (none : Option Nat)) ∧ (next_Next_l2_body = next_Next_l2_body) ∧ ∃ z46 : next_Next_l2_Z, ∃ z46q : next_Next_l2_Q, ∃ y47 : next_Next_l2_Y, (7 = 7) ∧ (∃ zc : next_Next_l2_C, wk 7 ⟨[(0, (V.agg [(V.int .u64 a0), (V.int .u64 a1), (V.int .u64 a2), (V.int .u64 a3), (V.int .u64 a4)])), (1, (V.int .i64 y44)), (2, (V.bool false)), (3, (V.fn 41 [] [(V.ptr 1 0)])), (4, (V.ptr 2 0)), (7, (V.ptr 3 0)), (8, (V.ptr 4 0)), (9, (V.ptr 5 0)), (14, (V.agg [(V.int .u64 a0), (V.int .u64 a1), (V.int .u64 a2), (V.int .u64 a3), (V.int .u64 a4)])), (15, (V.int .i64 y45)), (16, (V.bool (y45 != 0))), (17, (V.agg [(V.int .u64 a0), (V.int .u64 a1), (V.int .u64 a2), (V.int .u64 a3), (V.int .u64 a4)])), (18, (V.fn 105 [] [(V.ptr 6 0)])), (10, (V.fn 105 [] [(V.ptr 6 0)])), (19, (V.int .i64 0))], [(Blk.cells [(V.int .u64 a0), (V.int .u64 a1), (V.int .u64 a2), (V.int .u64 a3), (V.int .u64 a4)]), (Blk.cells [(V.int .i64 a5)]), (Blk.cells [(V.int .u64 a0), (V.int .u64 a1), (V.int .u64 a2), (V.int .u64 a3), (V.int .u64 a4)]), (Blk.cells [(V.fn 41 [] [(V.ptr 1 0)])]), (Blk.cells [(V.int .i64 0)]), (Blk.cells [(V.bool false)]), (Blk.cells [(V.int .u64 a0), (V.int .u64 a1), (V.int .u64 a2), (V.int .u64 a3), (V.int .u64 a4)])], []⟩ (next_Next_l2_st z46 z46q zc)) ∧ (∃ k, next_Next_l2 k z46 y47) ∧ ((req true ((req true ((req true (req true (req true (req true (req true (((y47.1), (y47.2)) = y)))))) ∧ (req true (req true (req true (req true (req true (((y47.1), (y47.2)) = y)))))))) ∧ (req true ((req true (req true (req true (req true (req true (((y47.1), (y47.2)) = y)))))) ∧ (req true (req true (req true (req true (req true (((y47.1), (y47.2)) = y)))))))))) ∧ (req true (req true ((req true (req true (req true (req true (req true (((y47.1), (y47.2)) = y)))))) ∧ (req true (req true (req true (req true (req true (((y47.1), (y47.2)) = y))))))))))))))))))))))))) ∧ (req true (∃ y48 : Int, (next_of_R a5 y48) ∧ (req true (req true (req true (∃ y49 : Int, (cron_Check_R a0 a1 a2 a3 a4 y49) ∧ (req true (br (y49 != 0) ((req true (req true (req true (req true (req true ((0, false) = y)))))) ∧ (req true (req true (req true (req true (req true ((0, false) = y))))))) (req true (req true (req true (req true (req true (req true (((none : Option Nat) = (none : Option Nat)) ∧ (next_Next_l2_body = next_Next_l2_body) ∧ ∃ z50 : next_Next_l2_Z, ∃ z50q : next_Next_l2_Q, ∃ y51 : next_Next_l2_Y, (7 = 7) ∧ (∃ zc : next_Next_l2_C, wk 7 ⟨[(0, (V.agg [(V.int .u64 a0), (V.int .u64 a1), (V.int .u64 a2), (V.int .u64 a3), (V.int .u64 a4)])), (1, (V.int .i64 y48)), (2, (V.bool false)), (3, (V.fn 41 [] [(V.ptr 1 0)])), (4, (V.ptr 2 0)), (7, (V.ptr 3 0)), (8, (V.ptr 4 0)), (9, (V.ptr 5 0)), (14, (V.agg [(V.int .u64 a0), (V.int .u64 a1), (V.int .u64 a2), (V.int .u64 a3), (V.int .u64 a4)])), (15, (V.int .i64 y49)), (16, (V.bool (y49 != 0))), (17, (V.agg [(V.int .u64 a0), (V.int .u64 a1), (V.int .u64 a2), (V.int .u64 a3), (V.int .u64 a4)])), (18, (V.fn 105 [] [(V.ptr 6 0)])), (10, (V.fn 105 [] [(V.ptr 6 0)])), (19, (V.int .i64 0))], [(Blk.cells [(V.int .u64 a0), (V.int .u64 a1), (V.int .u64 a2), (V.int .u64 a3), (V.int .u64 a4)]), (Blk.cells [(V.int .i64 a5)]), (Blk.cells [(V.int .u64 a0), (V.int .u64 a1), (V.int .u64 a2), (V.int .u64 a3), (V.int .u64 a4)]), (Blk.cells [(V.fn 41 [] [(V.ptr 1 0)])]), (Blk.cells [(V.int .i64 0)]), (Blk.cells [(V.bool false)]), (Blk.cells [(V.int .u64 a0), (V.int .u64 a1), (V.int .u64 a2), (V.int .u64 a3), (V.int .u64 a4)])], []⟩ (next_Next_l2_st z50 z50q zc)) ∧ (∃ k, next_Next_l2 k z50 y51) ∧ ((req true ((req true ((req true (req true (req true (req true (req true (((y51.1), (y51.2)) = y)))))) ∧ (req true (req true (req true (req true (req true (((y51.1), (y51.2)) = y)))))))) ∧ (req true ((req true (req true (req true (req true (req true (((y51.1), (y51.2)) = y)))))) ∧ (req true (req true (req true (req true (req true (((y51.1), (y51.2)) = y)))))))))) ∧ (req true (req true ((req true (req true (req true (req true (req true (((y51.1), (y51.2)) = y)))))) ∧ (req true (req true (req true (req true (req true (((y51.1), (y51.2)) = y))))))))))))))))))))))))))))) ∧ (req true ((req true (req true (req true (∃ y52 : Int, (next_of_R a5 y52) ∧ (req true (req true (∃ y53 : Int, (cron_Check_R a0 a1 a2 a3 a4 y53) ∧ (req true (br (y53 != 0) ((req true (req true (req true (req true (req true ((0, false) = y)))))) ∧ (req true (req true (req true (req true (req true ((0, false) = y))))))) (req true (req true (req true (req true (req true (req true (((none : Option Nat) = (none : Option Nat)) ∧ (next_Next_l2_body = next_Next_l2_body) ∧ ∃ z54 : next_Next_l2_Z, ∃ z54q : next_Next_l2_Q, ∃ y55 : next_Next_l2_Y, (7 = 7) ∧ (∃ zc : next_Next_l2_C, wk 7 ⟨[(0, (V.agg [(V.int .u64 a0), (V.int .u64 a1), (V.int .u64 a2), (V.int .u64 a3), (V.int .u64 a4)])), (1, (V.int .i64 y52)), (2, (V.bool false)), (3, (V.fn 41 [] [(V.ptr 1 0)])), (4, (V.ptr 2 0)), (7, (V.ptr 3 0)), (8, (V.ptr 4 0)), (9, (V.ptr 5 0)), (14, (V.agg [(V.int .u64 a0), (V.int .u64 a1), (V.int .u64 a2), (V.int .u64 a3), (V.int .u64 a4)])), (15, (V.int .i64 y53)), (16, (V.bool (y53 != 0))), (17, (V.agg [(V.int .u64 a0), (V.int .u64 a1), (V.int .u64 a2), (V.int .u64 a3), (V.int .u64 a4)])), (18, (V.fn 105 [] [(V.ptr 6 0)])), (10, (V.fn 105 [] [(V.ptr 6 0)])), (19, (V.int .i64 0))], [(Blk.cells [(V.int .u64 a0), (V.int .u64 a1), (V.int .u64 a2), (V.int .u64 a3), (V.int .u64 a4)]), (Blk.cells [(V.int .i64 a5)]), (Blk.cells [(V.int .u64 a0), (V.int .u64 a1), (V.int .u64 a2), (V.int .u64 a3), (V.int .u64 a4)]), (Blk.cells [(V.fn 41 [] [(V.ptr 1 0)])]), (Blk.cells [(V.int .i64 0)]), (Blk.cells [(V.bool false)]), (Blk.cells [(V.int .u64 a0), (V.int .u64 a1), (V.int .u64 a2), (V.int .u64 a3), (V.int .u64 a4)])], []⟩ (next_Next_l2_st z54 z54q zc)) ∧ (∃ k, next_Next_l2 k z54 y55) ∧ ((req true ((req true ((req true (req true (req true (req true (req true (((y55.1), (y55.2)) = y)))))) ∧ (req true (req true (req true (req true (req true (((y55.1), (y55.2)) = y)))))))) ∧ (req true ((req true (req true (req true (req true (req true (((y55.1), (y55.2)) = y)))))) ∧ (req true (req true (req true (req true (req true (((y55.1), (y55.2)) = y)))))))))) ∧ (req true (req true ((req true (req true (req true (req true (req true (((y55.1), (y55.2)) = y)))))) ∧ (req true (req true (req true (req true (req true (((y55.1), (y55.2)) = y)))))))))))))))))))))))))) ∧ (req true ((req true (req true (∃ y56 : Int, (next_of_R a5 y56) ∧ (req true (req true (∃ y57 : Int, (cron_Check_R a0 a1 a2 a3 a4 y57) ∧ (req true (br (y57 != 0) ((req true (req true (req true (req true (req true ((0, false) = y)))))) ∧ (req true (req true (req true (req true (req true ((0, false) = y))))))) (req true (req true (req true (req true (req true (req true (((none : Option Nat) = (none : Option Nat)) ∧ (next_Next_l2_body = next_Next_l2_body) ∧ ∃ z58 : next_Next_l2_Z, ∃ z58q : next_Next_l2_Q, ∃ y59 : next_Next_l2_Y, (7 = 7) ∧ (∃ zc : next_Next_l2_C, wk 7 ⟨[(0, (V.agg [(V.int .u64 a0), (V.int .u64 a1), (V.int .u64 a2), (V.int .u64 a3), (V.int .u64 a4)])), (1, (V.int .i64 y56)), (2, (V.bool false)), (3, (V.fn 41 [] [(V.ptr 1 0)])), (4, (V.ptr 2 0)), (7, (V.ptr 3 0)), (8, (V.ptr 4 0)), (9, (V.ptr 5 0)), (14, (V.agg [(V.int .u64 a0), (V.int .u64 a1), (V.int .u64 a2), (V.int .u64 a3), (V.int .u64 a4)])), (15, (V.int .i64 y57)), (16, (V.bool (y57 != 0))), (17, (V.agg [(V.int .u64 a0), (V.int .u64 a1), (V.int .u64 a2), (V.int .u64 a3), (V.int .u64 a4)])), (18, (V.fn 105 [] [(V.ptr 6 0)])), (10, (V.fn 105 [] [(V.ptr 6 0)])), (19, (V.int .i64 0))], [(Blk.cells [(V.int .u64 a0), (V.int .u64 a1), (V.int .u64 a2), (V.int .u64 a3), (V.int .u64 a4)]), (Blk.cells [(V.int .i64 a5)]), (Blk.cells [(V.int .u64 a0), (V.int .u64 a1), (V.int .u64 a2), (V.int .u64 a3), (V.int .u64 a4)]), (Blk.cells [(V.fn 41 [] [(V.ptr 1 0)])]), (Blk.cells [(V.int .i64 0)]), (Blk.cells [(V.bool false)]), (Blk.cells [(V.int .u64 a0), (V.int .u64 a1), (V.int .u64 a2), (V.int .u64 a3), (V.int .u64 a4)])], []⟩ (next_Next_l2_st z58 z58q zc)) ∧ (∃ k, next_Next_l2 k z58 y59) ∧ ((req true ((req true ((req true (req true (req true (req true (req true (((y59.1), (y59.2)) = y)))))) ∧ (req true (req true (req true (req true (req true (((y59.1), (y59.2)) = y)))))))) ∧ (req true ((req true (req true (req true (req true (req true (((y59.1), (y59.2)) = y)))))) ∧ (req true (req true (req true (req true (req true (((y59.1), (y59.2)) = y)))))))))) ∧ (req true (req true ((req true (req true (req true (req true (req true (((y59.1), (y59.2)) = y)))))) ∧ (req true (req true (req true (req true (req true (((y59.1), (y59.2)) = y))))))))))))))))))))))))) ∧ (req true (∃ y60 : Int, (next_of_R a5 y60) ∧ (req true (req true (req true (∃ y61 : Int, (cron_Check_R a0 a1 a2 a3 a4 y61) ∧ (req true (br (y61 != 0) ((req true (req true (req true (req true (req true ((0, false) = y)))))) ∧ (req true (req true (req true (req true (req true ((0, false) = y))))))) (req true (req true (req true (req true (req true (req true (((none : Option Nat) = (none : Option Nat)) ∧ (next_Next_l2_body = next_Next_l2_body) ∧ ∃ z62 : next_Next_l2_Z, ∃ z62q : next_Next_l2_Q, ∃ y63 : next_Next_l2_Y, (7 = 7) ∧ (∃ zc : next_Next_l2_C, wk 7 ⟨[(0, (V.agg [(V.int .u64 a0), (V.int .u64 a1), (V.int .u64 a2), (V.int .u64 a3), (V.int .u64 a4)])), (1, (V.int .i64 y60)), (2, (V.bool false)), (3, (V.fn 41 [] [(V.ptr 1 0)])), (4, (V.ptr 2 0)), (7, (V.ptr 3 0)), (8, (V.ptr 4 0)), (9, (V.ptr 5 0)), (14, (V.agg [(V.int .u64 a0), (V.int .u64 a1), (V.int .u64 a2), (V.int .u64 a3), (V.int .u64 a4)])), (15, (V.int .i64 y61)), (16, (V.bool (y61 != 0))), (17, (V.agg [(V.int .u64 a0), (V.int .u64 a1), (V.int .u64 a2), (V.int .u64 a3), (V.int .u64 a4)])), (18, (V.fn 105 [] [(V.ptr 6 0)])), (10, (V.fn 105 [] [(V.ptr 6 0)])), (19, (V.int .i64 0))], [(Blk.cells [(V.int .u64 a0), (V.int .u64 a1), (V.int .u64 a2), (V.int .u64 a3), (V.int .u64 a4)]), (Blk.cells [(V.int .i64 a5)]), (Blk.cells [(V.int .u64 a0), (V.int .u64 a1), (V.int .u64 a2), (V.int .u64 a3), (V.int .u64 a4)]), (Blk.cells [(V.fn 41 [] [(V.ptr 1 0)])]), (Blk.cells [(V.int .i64 0)]), (Blk.cells [(V.bool false)]), (Blk.cells [(V.int .u64 a0), (V.int .u64 a1), (V.int .u64 a2), (V.int .u64 a3), (V.int .u64 a4)])], []⟩ (next_Next_l2_st z62 z62q zc)) ∧ (∃ k, next_Next_l2 k z62 y63) ∧ ((req true ((req true ((req true (req true (req true (req true (req true (((y63.1), (y63.2)) = y)))))) ∧ (req true (req true (req true (req true (req true (((y63.1), (y63.2)) = y)))))))) ∧ (req true ((req true (req true (req true (req true (req true (((y63.1), (y63.2)) = y)))))) ∧ (req true (req true (req true (req true (req true (((y63.1), (y63.2)) = y)))))))))) ∧ (req true (req true ((req true (req true (req true (req true (req true (((y63.1), (y63.2)) = y)))))) ∧ (req true (req true (req true (req true (req true (((y63.1), (y63.2)) = y)))))))))))))))))))))))))))))))) := by kernel_rfl
theorem next_Next_run (a0 : Int) (a1 : Int) (a2 : Int) (a3 : Int) (a4 : Int) (a5 : Int) (y : Int × Bool) (h : next_Next_R a0 a1 a2 a3 a4 a5 y) : acall next_Next_cx okT next_Next_lp 60 (.fn 17 [] []) [(V.agg [(V.int .u64 a0), (V.int .u64 a1), (V.int .u64 a2), (V.int .u64 a3), (V.int .u64 a4)]), (V.int .i64 a5)] [] (leafK (.tup (.cons (.int .i64) (.one .bool))) y) := by
  refine cast (next_Next_tree a0 a1 a2 a3 a4 a5 y).symm ?_
  unfold next_Next_R at h
  iterate 2 refine req_intro rfl ?_
  refine ⟨?_, ?_, ?_⟩
  · refine req_intro rfl ?_
    refine ⟨?_, ?_⟩
    · refine req_intro rfl ?_
      refine ⟨?_, ?_⟩
      · refine req_intro rfl ?_
        obtain ⟨y1, ry1, h⟩ := h
        refine ⟨y1, ry1, ?_⟩
        iterate 3 refine req_intro rfl ?_
        obtain ⟨y2, ry2, h⟩ := h
        refine ⟨y2, ry2, ?_⟩
        refine req_intro rfl ?_
        refine br_both h (fun hb h => ?_) (fun hb h => ?_)
        · refine ⟨?_, ?_⟩
          · iterate 4 refine req_intro rfl ?_
            exact req_intro rfl h
          · iterate 4 refine req_intro rfl ?_
            exact req_intro rfl h
        · iterate 6 refine req_intro rfl ?_
          obtain ⟨y20, ry20, h⟩ := h
          refine ⟨rfl, rfl, (a0, a1, a2, a3, a4, a5, y1, 0), (), y20, rfl, ⟨(), wk_of (Or.inr ⟨⟨Or.inl rfl, Or.inl rfl, Or.inl rfl, Or.inl rfl, Or.inl rfl, Or.inl rfl, Or.inl rfl, Or.inl rfl, trivial⟩, ⟨Or.inl rfl, Or.inl rfl, Or.inl rfl, Or.inl rfl, Or.inl rfl, Or.inl rfl, Or.inl rfl, trivial⟩, rfl, rfl, rfl⟩)⟩, ry20, ?_⟩
          refine ⟨?_, ?_⟩
          · refine req_intro rfl ?_
            refine ⟨?_, ?_⟩
            · refine req_intro rfl ?_
              refine ⟨?_, ?_⟩
              · iterate 4 refine req_intro rfl ?_
                exact req_intro rfl h
              · iterate 4 refine req_intro rfl ?_
                exact req_intro rfl h
            · refine req_intro rfl ?_
              refine ⟨?_, ?_⟩
              · iterate 4 refine req_intro rfl ?_
                exact req_intro rfl h
              · iterate 4 refine req_intro rfl ?_
                exact req_intro rfl h
          · iterate 2 refine req_intro rfl ?_
            refine ⟨?_, ?_⟩
            · iterate 4 refine req_intro rfl ?_
              exact req_intro rfl h
            · iterate 4 refine req_intro rfl ?_
              exact req_intro rfl h
      · iterate 2 refine req_intro rfl ?_
        obtain ⟨y21, ry21, h⟩ := h
        refine ⟨y21, ry21, ?_⟩
        iterate 2 refine req_intro rfl ?_
        obtain ⟨y22, ry22, h⟩ := h
        refine ⟨y22, ry22, ?_⟩
        refine req_intro rfl ?_
        refine br_both h (fun hb h => ?_) (fun hb h => ?_)
        · refine ⟨?_, ?_⟩
          · iterate 4 refine req_intro rfl ?_
            exact req_intro rfl h
          · iterate 4 refine req_intro rfl ?_
            exact req_intro rfl h
        · iterate 6 refine req_intro rfl ?_
          obtain ⟨y24, ry24, h⟩ := h
          refine ⟨rfl, rfl, (a0, a1, a2, a3, a4, a5, y21, 0), (), y24, rfl, ⟨(), wk_of (Or.inr ⟨⟨Or.inl rfl, Or.inl rfl, Or.inl rfl, Or.inl rfl, Or.inl rfl, Or.inl rfl, Or.inl rfl, Or.inl rfl, trivial⟩, ⟨Or.inl rfl, Or.inl rfl, Or.inl rfl, Or.inl rfl, Or.inl rfl, Or.inl rfl, Or.inl rfl, trivial⟩, rfl, rfl, rfl⟩)⟩, ry24, ?_⟩
          refine ⟨?_, ?_⟩
          · refine req_intro rfl ?_
            refine ⟨?_, ?_⟩
            · refine req_intro rfl ?_
              refine ⟨?_, ?_⟩
              · iterate 4 refine req_intro rfl ?_
                exact req_intro rfl h
              · iterate 4 refine req_intro rfl ?_
                exact req_intro rfl h
            · refine req_intro rfl ?_
              refine ⟨?_, ?_⟩
              · iterate 4 refine req_intro rfl ?_
                exact req_intro rfl h
              · iterate 4 refine req_intro rfl ?_
                exact req_intro rfl h
          · iterate 2 refine req_intro rfl ?_
            refine ⟨?_, ?_⟩
            · iterate 4 refine req_intro rfl ?_
              exact req_intro rfl h
            · iterate 4 refine req_intro rfl ?_
              exact req_intro rfl h
    · iterate 3 refine req_intro rfl ?_
      obtain ⟨y25, ry25, h⟩ := h
      refine ⟨y25, ry25, ?_⟩
      iterate 2 refine req_intro rfl ?_
      obtain ⟨y26, ry26, h⟩ := h
      refine ⟨y26, ry26, ?_⟩
      refine req_intro rfl ?_
      refine br_both h (fun hb h => ?_) (fun hb h => ?_)
      · refine ⟨?_, ?_⟩
        · iterate 4 refine req_intro rfl ?_
          exact req_intro rfl h
        · iterate 4 refine req_intro rfl ?_
          exact req_intro rfl h
      · iterate 6 refine req_intro rfl ?_
        obtain ⟨y28, ry28, h⟩ := h
        refine ⟨rfl, rfl, (a0, a1, a2, a3, a4, a5, y25, 0), (), y28, rfl, ⟨(), wk_of (Or.inr ⟨⟨Or.inl rfl, Or.inl rfl, Or.inl rfl, Or.inl rfl, Or.inl rfl, Or.inl rfl, Or.inl rfl, Or.inl rfl, trivial⟩, ⟨Or.inl rfl, Or.inl rfl, Or.inl rfl, Or.inl rfl, Or.inl rfl, Or.inl rfl, Or.inl rfl, trivial⟩, rfl, rfl, rfl⟩)⟩, ry28, ?_⟩
        refine ⟨?_, ?_⟩
        · refine req_intro rfl ?_
          refine ⟨?_, ?_⟩
          · refine req_intro rfl ?_
            refine ⟨?_, ?_⟩
            · iterate 4 refine req_intro rfl ?_
              exact req_intro rfl h
            · iterate 4 refine req_intro rfl ?_
              exact req_intro rfl h
          · refine req_intro rfl ?_
            refine ⟨?_, ?_⟩
            · iterate 4 refine req_intro rfl ?_
              exact req_intro rfl h
            · iterate 4 refine req_intro rfl ?_
              exact req_intro rfl h
        · iterate 2 refine req_intro rfl ?_
          refine ⟨?_, ?_⟩
          · iterate 4 refine req_intro rfl ?_
            exact req_intro rfl h
          · iterate 4 refine req_intro rfl ?_
            exact req_intro rfl h
  · refine req_intro rfl ?_
    refine ⟨?_, ?_, ?_⟩
    · refine req_intro rfl ?_
      refine ⟨?_, ?_⟩
      · refine req_intro rfl ?_
        obtain ⟨y29, ry29, h⟩ := h
        refine ⟨y29, ry29, ?_⟩
        iterate 3 refine req_intro rfl ?_
        obtain ⟨y30, ry30, h⟩ := h
        refine ⟨y30, ry30, ?_⟩
        refine req_intro rfl ?_
        refine br_both h (fun hb h => ?_) (fun hb h => ?_)
        · refine ⟨?_, ?_⟩
          · iterate 4 refine req_intro rfl ?_
            exact req_intro rfl h
          · iterate 4 refine req_intro rfl ?_
            exact req_intro rfl h
        · iterate 6 refine req_intro rfl ?_
          obtain ⟨y32, ry32, h⟩ := h
          refine ⟨rfl, rfl, (a0, a1, a2, a3, a4, a5, y29, 0), (), y32, rfl, ⟨(), wk_of (Or.inr ⟨⟨Or.inl rfl, Or.inl rfl, Or.inl rfl, Or.inl rfl, Or.inl rfl, Or.inl rfl, Or.inl rfl, Or.inl rfl, trivial⟩, ⟨Or.inl rfl, Or.inl rfl, Or.inl rfl, Or.inl rfl, Or.inl rfl, Or.inl rfl, Or.inl rfl, trivial⟩, rfl, rfl, rfl⟩)⟩, ry32, ?_⟩
          refine ⟨?_, ?_⟩
          · refine req_intro rfl ?_
            refine ⟨?_, ?_⟩
            · refine req_intro rfl ?_
              refine ⟨?_, ?_⟩
              · iterate 4 refine req_intro rfl ?_
                exact req_intro rfl h
              · iterate 4 refine req_intro rfl ?_
                exact req_intro rfl h
            · refine req_intro rfl ?_
              refine ⟨?_, ?_⟩
              · iterate 4 refine req_intro rfl ?_
                exact req_intro rfl h
              · iterate 4 refine req_intro rfl ?_
                exact req_intro rfl h
          · iterate 2 refine req_intro rfl ?_
            refine ⟨?_, ?_⟩
            · iterate 4 refine req_intro rfl ?_
              exact req_intro rfl h
            · iterate 4 refine req_intro rfl ?_
              exact req_intro rfl h
      · iterate 2 refine req_intro rfl ?_
        obtain ⟨y33, ry33, h⟩ := h
        refine ⟨y33, ry33, ?_⟩
        iterate 2 refine req_intro rfl ?_
        obtain ⟨y34, ry34, h⟩ := h
        refine ⟨y34, ry34, ?_⟩
        refine req_intro rfl ?_
        refine br_both h (fun hb h => ?_) (fun hb h => ?_)
        · refine ⟨?_, ?_⟩
          · iterate 4 refine req_intro rfl ?_
            exact req_intro rfl h
          · iterate 4 refine req_intro rfl ?_
            exact req_intro rfl h
        · iterate 6 refine req_intro rfl ?_
          obtain ⟨y36, ry36, h⟩ := h
          refine ⟨rfl, rfl, (a0, a1, a2, a3, a4, a5, y33, 0), (), y36, rfl, ⟨(), wk_of (Or.inr ⟨⟨Or.inl rfl, Or.inl rfl, Or.inl rfl, Or.inl rfl, Or.inl rfl, Or.inl rfl, Or.inl rfl, Or.inl rfl, trivial⟩, ⟨Or.inl rfl, Or.inl rfl, Or.inl rfl, Or.inl rfl, Or.inl rfl, Or.inl rfl, Or.inl rfl, trivial⟩, rfl, rfl, rfl⟩)⟩, ry36, ?_⟩
          refine ⟨?_, ?_⟩
          · refine req_intro rfl ?_
            refine ⟨?_, ?_⟩
            · refine req_intro rfl ?_
              refine ⟨?_, ?_⟩
              · iterate 4 refine req_intro rfl ?_
                exact req_intro rfl h
              · iterate 4 refine req_intro rfl ?_
                exact req_intro rfl h
            · refine req_intro rfl ?_
              refine ⟨?_, ?_⟩
              · iterate 4 refine req_intro rfl ?_
                exact req_intro rfl h
              · iterate 4 refine req_intro rfl ?_
                exact req_intro rfl h
          · iterate 2 refine req_intro rfl ?_
            refine ⟨?_, ?_⟩
            · iterate 4 refine req_intro rfl ?_
              exact req_intro rfl h
            · iterate 4 refine req_intro rfl ?_
              exact req_intro rfl h
    · refine req_intro rfl ?_
      obtain ⟨y37, ry37, h⟩ := h
      refine ⟨y37, ry37, ?_⟩
      refine ⟨?_, ?_⟩
      · iterate 4 refine req_intro rfl ?_
        obtain ⟨y38, ry38, h⟩ := h
        refine ⟨y38, ry38, ?_⟩
        refine req_intro rfl ?_
        refine br_both h (fun hb h => ?_) (fun hb h => ?_)
        · refine ⟨?_, ?_⟩
          · iterate 4 refine req_intro rfl ?_
            exact req_intro rfl h
          · iterate 4 refine req_intro rfl ?_
            exact req_intro rfl h
        · iterate 6 refine req_intro rfl ?_
          obtain ⟨y40, ry40, h⟩ := h
          refine ⟨rfl, rfl, (a0, a1, a2, a3, a4, a5, y37, 0), (), y40, rfl, ⟨(), wk_of (Or.inr ⟨⟨Or.inl rfl, Or.inl rfl, Or.inl rfl, Or.inl rfl, Or.inl rfl, Or.inl rfl, Or.inl rfl, Or.inl rfl, trivial⟩, ⟨Or.inl rfl, Or.inl rfl, Or.inl rfl, Or.inl rfl, Or.inl rfl, Or.inl rfl, Or.inl rfl, trivial⟩, rfl, rfl, rfl⟩)⟩, ry40, ?_⟩
          refine ⟨?_, ?_⟩
          · refine req_intro rfl ?_
            refine ⟨?_, ?_⟩
            · refine req_intro rfl ?_
              refine ⟨?_, ?_⟩
              · iterate 4 refine req_intro rfl ?_
                exact req_intro rfl h
              · iterate 4 refine req_intro rfl ?_
                exact req_intro rfl h
            · refine req_intro rfl ?_
              refine ⟨?_, ?_⟩
              · iterate 4 refine req_intro rfl ?_
                exact req_intro rfl h
              · iterate 4 refine req_intro rfl ?_
                exact req_intro rfl h
          · iterate 2 refine req_intro rfl ?_
            refine ⟨?_, ?_⟩
            · iterate 4 refine req_intro rfl ?_
              exact req_intro rfl h
            · iterate 4 refine req_intro rfl ?_
              exact req_intro rfl h
      · iterate 4 refine req_intro rfl ?_
        obtain ⟨y41, ry41, h⟩ := h
        refine ⟨y41, ry41, ?_⟩
        refine req_intro rfl ?_
        refine br_both h (fun hb h => ?_) (fun hb h => ?_)
        · refine ⟨?_, ?_⟩
          · iterate 4 refine req_intro rfl ?_
            exact req_intro rfl h
          · iterate 4 refine req_intro rfl ?_
            exact req_intro rfl h
        · iterate 6 refine req_intro rfl ?_
          obtain ⟨y43, ry43, h⟩ := h
          refine ⟨rfl, rfl, (a0, a1, a2, a3, a4, a5, y37, 0), (), y43, rfl, ⟨(), wk_of (Or.inr ⟨⟨Or.inl rfl, Or.inl rfl, Or.inl rfl, Or.inl rfl, Or.inl rfl, Or.inl rfl, Or.inl rfl, Or.inl rfl, trivial⟩, ⟨Or.inl rfl, Or.inl rfl, Or.inl rfl, Or.inl rfl, Or.inl rfl, Or.inl rfl, Or.inl rfl, trivial⟩, rfl, rfl, rfl⟩)⟩, ry43, ?_⟩
          refine ⟨?_, ?_⟩
          · refine req_intro rfl ?_
            refine ⟨?_, ?_⟩
            · refine req_intro rfl ?_
              refine ⟨?_, ?_⟩
              · iterate 4 refine req_intro rfl ?_
                exact req_intro rfl h
              · iterate 4 refine req_intro rfl ?_
                exact req_intro rfl h
            · refine req_intro rfl ?_
              refine ⟨?_, ?_⟩
              · iterate 4 refine req_intro rfl ?_
                exact req_intro rfl h
              · iterate 4 refine req_intro rfl ?_
                exact req_intro rfl h
          · iterate 2 refine req_intro rfl ?_
            refine ⟨?_, ?_⟩
            · iterate 4 refine req_intro rfl ?_
              exact req_intro rfl h
            · iterate 4 refine req_intro rfl ?_
              exact req_intro rfl h
    · refine req_intro rfl ?_
      refine ⟨?_, ?_⟩
      · iterate 2 refine req_intro rfl ?_
        obtain ⟨y44, ry44, h⟩ := h
        refine ⟨y44, ry44, ?_⟩
        iterate 2 refine req_intro rfl ?_
        obtain ⟨y45, ry45, h⟩ := h
        refine ⟨y45, ry45, ?_⟩
        refine req_intro rfl ?_
        refine br_both h (fun hb h => ?_) (fun hb h => ?_)
        · refine ⟨?_, ?_⟩
          · iterate 4 refine req_intro rfl ?_
            exact req_intro rfl h
          · iterate 4 refine req_intro rfl ?_
            exact req_intro rfl h
        · iterate 6 refine req_intro rfl ?_
          obtain ⟨y47, ry47, h⟩ := h
          refine ⟨rfl, rfl, (a0, a1, a2, a3, a4, a5, y44, 0), (), y47, rfl, ⟨(), wk_of (Or.inr ⟨⟨Or.inl rfl, Or.inl rfl, Or.inl rfl, Or.inl rfl, Or.inl rfl, Or.inl rfl, Or.inl rfl, Or.inl rfl, trivial⟩, ⟨Or.inl rfl, Or.inl rfl, Or.inl rfl, Or.inl rfl, Or.inl rfl, Or.inl rfl, Or.inl rfl, trivial⟩, rfl, rfl, rfl⟩)⟩, ry47, ?_⟩
          refine ⟨?_, ?_⟩
          · refine req_intro rfl ?_
            refine ⟨?_, ?_⟩
            · refine req_intro rfl ?_
              refine ⟨?_, ?_⟩
              · iterate 4 refine req_intro rfl ?_
                exact req_intro rfl h
              · iterate 4 refine req_intro rfl ?_
                exact req_intro rfl h
            · refine req_intro rfl ?_
              refine ⟨?_, ?_⟩
              · iterate 4 refine req_intro rfl ?_
                exact req_intro rfl h
              · iterate 4 refine req_intro rfl ?_
                exact req_intro rfl h
          · iterate 2 refine req_intro rfl ?_
            refine ⟨?_, ?_⟩
            · iterate 4 refine req_intro rfl ?_
              exact req_intro rfl h
            · iterate 4 refine req_intro rfl ?_
              exact req_intro rfl h
      · refine req_intro rfl ?_
        obtain ⟨y48, ry48, h⟩ := h
        refine ⟨y48, ry48, ?_⟩
        iterate 3 refine req_intro rfl ?_
        obtain ⟨y49, ry49, h⟩ := h
        refine ⟨y49, ry49, ?_⟩
        refine req_intro rfl ?_
        refine br_both h (fun hb h => ?_) (fun hb h => ?_)
        · refine ⟨?_, ?_⟩
          · iterate 4 refine req_intro rfl ?_
            exact req_intro rfl h
          · iterate 4 refine req_intro rfl ?_
            exact req_intro rfl h
        · iterate 6 refine req_intro rfl ?_
          obtain ⟨y51, ry51, h⟩ := h
          refine ⟨rfl, rfl, (a0, a1, a2, a3, a4, a5, y48, 0), (), y51, rfl, ⟨(), wk_of (Or.inr ⟨⟨Or.inl rfl, Or.inl rfl, Or.inl rfl, Or.inl rfl, Or.inl rfl, Or.inl rfl, Or.inl rfl, Or.inl rfl, trivial⟩, ⟨Or.inl rfl, Or.inl rfl, Or.inl rfl, Or.inl rfl, Or.inl rfl, Or.inl rfl, Or.inl rfl, trivial⟩, rfl, rfl, rfl⟩)⟩, ry51, ?_⟩
          refine ⟨?_, ?_⟩
          · refine req_intro rfl ?_
            refine ⟨?_, ?_⟩
            · refine req_intro rfl ?_
              refine ⟨?_, ?_⟩
              · iterate 4 refine req_intro rfl ?_
                exact req_intro rfl h
              · iterate 4 refine req_intro rfl ?_
                exact req_intro rfl h
            · refine req_intro rfl ?_
              refine ⟨?_, ?_⟩
              · iterate 4 refine req_intro rfl ?_
                exact req_intro rfl h
              · iterate 4 refine req_intro rfl ?_
                exact req_intro rfl h
          · iterate 2 refine req_intro rfl ?_
            refine ⟨?_, ?_⟩
            · iterate 4 refine req_intro rfl ?_
              exact req_intro rfl h
            · iterate 4 refine req_intro rfl ?_
              exact req_intro rfl h
  · refine req_intro rfl ?_
    refine ⟨?_, ?_⟩
    · iterate 3 refine req_intro rfl ?_
      obtain ⟨y52, ry52, h⟩ := h
      refine ⟨y52, ry52, ?_⟩
      iterate 2 refine req_intro rfl ?_
      obtain ⟨y53, ry53, h⟩ := h
      refine ⟨y53, ry53, ?_⟩
      refine req_intro rfl ?_
      refine br_both h (fun hb h => ?_) (fun hb h => ?_)
      · refine ⟨?_, ?_⟩
        · iterate 4 refine req_intro rfl ?_
          exact req_intro rfl h
        · iterate 4 refine req_intro rfl ?_
          exact req_intro rfl h
      · iterate 6 refine req_intro rfl ?_
        obtain ⟨y55, ry55, h⟩ := h
        refine ⟨rfl, rfl, (a0, a1, a2, a3, a4, a5, y52, 0), (), y55, rfl, ⟨(), wk_of (Or.inr ⟨⟨Or.inl rfl, Or.inl rfl, Or.inl rfl, Or.inl rfl, Or.inl rfl, Or.inl rfl, Or.inl rfl, Or.inl rfl, trivial⟩, ⟨Or.inl rfl, Or.inl rfl, Or.inl rfl, Or.inl rfl, Or.inl rfl, Or.inl rfl, Or.inl rfl, trivial⟩, rfl, rfl, rfl⟩)⟩, ry55, ?_⟩
        refine ⟨?_, ?_⟩
        · refine req_intro rfl ?_
          refine ⟨?_, ?_⟩
          · refine req_intro rfl ?_
            refine ⟨?_, ?_⟩
            · iterate 4 refine req_intro rfl ?_
              exact req_intro rfl h
            · iterate 4 refine req_intro rfl ?_
              exact req_intro rfl h
          · refine req_intro rfl ?_
            refine ⟨?_, ?_⟩
            · iterate 4 refine req_intro rfl ?_
              exact req_intro rfl h
            · iterate 4 refine req_intro rfl ?_
              exact req_intro rfl h
        · iterate 2 refine req_intro rfl ?_
          refine ⟨?_, ?_⟩
          · iterate 4 refine req_intro rfl ?_
            exact req_intro rfl h
          · iterate 4 refine req_intro rfl ?_
            exact req_intro rfl h
    · refine req_intro rfl ?_
      refine ⟨?_, ?_⟩
      · iterate 2 refine req_intro rfl ?_
        obtain ⟨y56, ry56, h⟩ := h
        refine ⟨y56, ry56, ?_⟩
        iterate 2 refine req_intro rfl ?_
        obtain ⟨y57, ry57, h⟩ := h
        refine ⟨y57, ry57, ?_⟩
        refine req_intro rfl ?_
        refine br_both h (fun hb h => ?_) (fun hb h => ?_)
        · refine ⟨?_, ?_⟩
          · iterate 4 refine req_intro rfl ?_
            exact req_intro rfl h
          · iterate 4 refine req_intro rfl ?_
            exact req_intro rfl h
        · iterate 6 refine req_intro rfl ?_
          obtain ⟨y59, ry59, h⟩ := h
          refine ⟨rfl, rfl, (a0, a1, a2, a3, a4, a5, y56, 0), (), y59, rfl, ⟨(), wk_of (Or.inr ⟨⟨Or.inl rfl, Or.inl rfl, Or.inl rfl, Or.inl rfl, Or.inl rfl, Or.inl rfl, Or.inl rfl, Or.inl rfl, trivial⟩, ⟨Or.inl rfl, Or.inl rfl, Or.inl rfl, Or.inl rfl, Or.inl rfl, Or.inl rfl, Or.inl rfl, trivial⟩, rfl, rfl, rfl⟩)⟩, ry59, ?_⟩
          refine ⟨?_, ?_⟩
          · refine req_intro rfl ?_
            refine ⟨?_, ?_⟩
            · refine req_intro rfl ?_
              refine ⟨?_, ?_⟩
              · iterate 4 refine req_intro rfl ?_
                exact req_intro rfl h
              · iterate 4 refine req_intro rfl ?_
                exact req_intro rfl h
            · refine req_intro rfl ?_
              refine ⟨?_, ?_⟩
              · iterate 4 refine req_intro rfl ?_
                exact req_intro rfl h
              · iterate 4 refine req_intro rfl ?_
                exact req_intro rfl h
          · iterate 2 refine req_intro rfl ?_
            refine ⟨?_, ?_⟩
            · iterate 4 refine req_intro rfl ?_
              exact req_intro rfl h
            · iterate 4 refine req_intro rfl ?_
              exact req_intro rfl h
      · refine req_intro rfl ?_
        obtain ⟨y60, ry60, h⟩ := h
        refine ⟨y60, ry60, ?_⟩
        iterate 3 refine req_intro rfl ?_
        obtain ⟨y61, ry61, h⟩ := h
        refine ⟨y61, ry61, ?_⟩
        refine req_intro rfl ?_
        refine br_both h (fun hb h => ?_) (fun hb h => ?_)
        · refine ⟨?_, ?_⟩
          · iterate 4 refine req_intro rfl ?_
            exact req_intro rfl h
          · iterate 4 refine req_intro rfl ?_
            exact req_intro rfl h
        · iterate 6 refine req_intro rfl ?_
          obtain ⟨y63, ry63, h⟩ := h
          refine ⟨rfl, rfl, (a0, a1, a2, a3, a4, a5, y60, 0), (), y63, rfl, ⟨(), wk_of (Or.inr ⟨⟨Or.inl rfl, Or.inl rfl, Or.inl rfl, Or.inl rfl, Or.inl rfl, Or.inl rfl, Or.inl rfl, Or.inl rfl, trivial⟩, ⟨Or.inl rfl, Or.inl rfl, Or.inl rfl, Or.inl rfl, Or.inl rfl, Or.inl rfl, Or.inl rfl, trivial⟩, rfl, rfl, rfl⟩)⟩, ry63, ?_⟩
          refine ⟨?_, ?_⟩
          · refine req_intro rfl ?_
            refine ⟨?_, ?_⟩
            · refine req_intro rfl ?_
              refine ⟨?_, ?_⟩
              · iterate 4 refine req_intro rfl ?_
                exact req_intro rfl h
              · iterate 4 refine req_intro rfl ?_
                exact req_intro rfl h
            · refine req_intro rfl ?_
              refine ⟨?_, ?_⟩
              · iterate 4 refine req_intro rfl ?_
                exact req_intro rfl h
              · iterate 4 refine req_intro rfl ?_
                exact req_intro rfl h
          · iterate 2 refine req_intro rfl ?_
            refine ⟨?_, ?_⟩
            · iterate 4 refine req_intro rfl ?_
              exact req_intro rfl h
            · iterate 4 refine req_intro rfl ?_
              exact req_intro rfl h
theorem next_Next_ok : FxOk Tryd.prog gsT 17 (.cons (.agg (.cons (.int .u64) (.cons (.int .u64) (.cons (.int .u64) (.cons (.int .u64) (.one (.int .u64))))))) (.one (.int .i64))) (.tup (.cons (.int .i64) (.one .bool))) fun x y => next_Next_R (x.1.1) (x.1.2.1) (x.1.2.2.1) (x.1.2.2.2.1) (x.1.2.2.2.2) (x.2) y := fx_of (c := next_Next_cx) (ty_ok rfl) (eq_ok rfl) next_Next_fns follows_ok (ok := okT) (lp := next_Next_lp) (n := 60) next_Next_lpok (enters Tryd.func17 (by kernel_rfl) rfl) (fun y => ⟨_, rfl⟩) fun x y h => next_Next_run _ _ _ _ _ _ y h
noncomputable def next_Some_cx : Cx := ⟨tyT, [(13, .body Tryd.f13),
  (17, .fx (.cons (.agg (.cons (.int .u64) (.cons (.int .u64) (.cons (.int .u64) (.cons (.int .u64) (.one (.int .u64))))))) (.one (.int .i64))) (.tup (.cons (.int .i64) (.one .bool))) fun x y => next_Next_R (x.1.1) (x.1.2.1) (x.1.2.2.1) (x.1.2.2.2.1) (x.1.2.2.2.2) (x.2) y),
  (23, .fx (.one (.agg (.cons (.int .u64) (.cons (.int .u64) (.cons (.int .u64) (.cons (.int .u64) (.one (.int .u64)))))))) (.int .i64) fun x y => cron_Check_R (x.1) (x.2.1) (x.2.2.1) (x.2.2.2.1) (x.2.2.2.2) y)], gsT, eqT⟩
theorem next_Some_fns : FnsOk Tryd.prog next_Some_cx := Fns_assoc ⟨body_ent Tryd.func13 (by kernel_rfl) (by kernel_rfl), next_Next_ok, cron_Check_ok, trivial⟩
noncomputable def next_Some_l0_body : Code := subC [1, 1, 1, 1, 1, 0, 1, 0, 0] (bodyOf Tryd.f13)
abbrev next_Some_l0_Z : Type := List Int × Int × Int × Int × Int × Int × Int × Int × Int × Int × Int
abbrev next_Some_l0_Y : Type := (List Int) ⊕ (List Int)
abbrev next_Some_l0_C : Type := Nat
abbrev next_Some_l0_Q : Type := Unit
noncomputable def next_Some_l0_st (z2 : next_Some_l0_Z) (z2q : next_Some_l0_Q) (z2c : next_Some_l0_C) : S := ⟨[(3, (V.ptr 0 0)), (4, (V.ptr 1 0)), (6, (V.old (.slice none 0 0))), (7, (V.int .i64 0)), (9, (V.row 2 1 (List.length (z2.1)) z2c)), (10, (V.int .i64 (z2.2.2.2.2.2.2.2.2.1))), (26, (V.int .i64 (z2.2.2.2.2.2.2.2.2.2.1))), (27, (V.int .i64 (z2.2.2.2.2.2.2.2.2.2.2)))], [(Blk.cells [(V.int .u64 (z2.2.1)), (V.int .u64 (z2.2.2.1)), (V.int .u64 (z2.2.2.2.1)), (V.int .u64 (z2.2.2.2.2.1)), (V.int .u64 (z2.2.2.2.2.2.1))]), (Blk.cells [(V.int .i64 (z2.2.2.2.2.2.2.1)), (V.int .i64 (z2.2.2.2.2.2.2.2.1))]), (Blk.row (.int .i64) (z2.1) 2 z2c)], []⟩
def next_Some_l0_K (K : Ret → S → Prop) (z2 : next_Some_l0_Z) (z2q : next_Some_l0_Q) (y3 : next_Some_l0_Y) : Prop := sume (fun y3 => (∀ y3c : Nat, K .ret ⟨[(6, (V.row 2 1 (List.length y3) y3c)), (7, (V.int .i64 0)), (9, (V.row 2 1 (List.length y3) y3c))], [(Blk.cells [(V.int .u64 (z2.2.1)), (V.int .u64 (z2.2.2.1)), (V.int .u64 (z2.2.2.2.1)), (V.int .u64 (z2.2.2.2.2.1)), (V.int .u64 (z2.2.2.2.2.2.1))]), (Blk.cells [(V.int .i64 (z2.2.2.2.2.2.2.1)), (V.int .i64 (z2.2.2.2.2.2.2.2.1))]), (Blk.row (.int .i64) y3 2 y3c)], []⟩)) (fun y3 => (∀ y3c : Nat, K (.exit 0) ⟨[(6, (V.old (.slice none 0 0))), (7, (V.int .i64 0)), (9, (V.row 2 1 (List.length y3) y3c))], [(Blk.cells [(V.int .u64 (z2.2.1)), (V.int .u64 (z2.2.2.1)), (V.int .u64 (z2.2.2.2.1)), (V.int .u64 (z2.2.2.2.2.1)), (V.int .u64 (z2.2.2.2.2.2.1))]), (Blk.cells [(V.int .i64 (z2.2.2.2.2.2.2.1)), (V.int .i64 (z2.2.2.2.2.2.2.2.1))]), (Blk.row (.int .i64) y3 2 y3c)], []⟩)) y3
def next_Some_l0 : Nat → next_Some_l0_Z → next_Some_l0_Y → Prop
  | 0, _, _ => False
  | k + 1, z2, y3_ => (br (decide ((z2.2.2.2.2.2.2.2.2.2.2) < (z2.2.2.2.2.2.2.2.2.2.1))) (∃ y4 : Int × Bool, (next_Next_R (z2.2.1) (z2.2.2.1) (z2.2.2.2.1) (z2.2.2.2.2.1) (z2.2.2.2.2.2.1) (z2.2.2.2.2.2.2.2.2.1) y4) ∧ (br (!(y4.2)) ((Sum.inl (z2.1)) = y3_) (br (decide ((y4.1) > (z2.2.2.2.2.2.2.2.1))) ((Sum.inl (z2.1)) = y3_) (req (Nat.ble ((List.length ((z2.1) ++ [(y4.1)])) * 9) 140737488355328) (next_Some_l0 k (((z2.1) ++ [(y4.1)]), (z2.2.1), (z2.2.2.1), (z2.2.2.2.1), (z2.2.2.2.2.1), (z2.2.2.2.2.2.1), (z2.2.2.2.2.2.2.1), (z2.2.2.2.2.2.2.2.1), (y4.1), (z2.2.2.2.2.2.2.2.2.2.1), (IntKind.wrap .i64 ((z2.2.2.2.2.2.2.2.2.2.2) + 1))) y3_))))) ((Sum.inr (z2.1)) = y3_))
def next_Some_l0_L (z : next_Some_l0_Z) (y : next_Some_l0_Y) : Prop := ∃ k, next_Some_l0 k z y
noncomputable def next_Some_l0_lp : Lp := .auto none next_Some_l0_body (loopG 2 next_Some_l0_st (fun z y => ∃ k, next_Some_l0 k z y) next_Some_l0_K)
noncomputable def next_Some_lp : Nat → FuncId → Nat → Nat → Lp := lpTab [(13, 9, 2, 1, next_Some_l0_lp)]
theorem next_Some_l0_round (n : Nat) (z2 : next_Some_l0_Z) (z2q : next_Some_l0_Q) (z2c : next_Some_l0_C) (K : Ret → S → Prop) (next : S → Prop) : acode next_Some_cx 13 (acall next_Some_cx okT next_Some_lp (n + 1)) kept (next_Some_lp (n + 1) 13) none next_Some_l0_body (iterK (wkK 2 K) next) (next_Some_l0_st z2 z2q z2c) =
    (req true (br (decide ((z2.2.2.2.2.2.2.2.2.2.2) < (z2.2.2.2.2.2.2.2.2.2.1))) (req true (req true (req true (∃ y4 : Int × Bool, (next_Next_R (z2.2.1) (z2.2.2.1) (z2.2.2.2.1) (z2.2.2.2.2.1) (z2.2.2.2.2.2.1) (z2.2.2.2.2.2.2.2.2.1) y4) ∧ (req true (req true (req true (req true (req true (req true (req true (req true (br (!(y4.2)) (req true (req true (req true (req true (wkK 2 K .ret ⟨[(3, (V.ptr 0 0)), (4, (V.ptr 1 0)), (6, (V.row 2 1 (List.length (z2.1)) z2c)), (7, (V.int .i64 0)), (9, (V.row 2 1 (List.length (z2.1)) z2c)), (10, (V.int .i64 (z2.2.2.2.2.2.2.2.2.1))), (26, (V.int .i64 (z2.2.2.2.2.2.2.2.2.2.1))), (27, (V.int .i64 (z2.2.2.2.2.2.2.2.2.2.2))), (28, (V.bool (decide ((z2.2.2.2.2.2.2.2.2.2.2) < (z2.2.2.2.2.2.2.2.2.2.1))))), (30, (V.agg [(V.int .u64 (z2.2.1)), (V.int .u64 (z2.2.2.1)), (V.int .u64 (z2.2.2.2.1)), (V.int .u64 (z2.2.2.2.2.1)), (V.int .u64 (z2.2.2.2.2.2.1))])), (31, (V.int .i64 (z2.2.2.2.2.2.2.2.2.1))), (32, (V.tup [(V.int .i64 (y4.1)), (V.bool (y4.2))])), (29, (V.tup [(V.int .i64 (y4.1)), (V.bool (y4.2))])), (33, (V.int .i64 (y4.1))), (34, (V.bool (y4.2))), (11, (V.int .i64 (y4.1))), (12, (V.bool (y4.2))), (35, (V.bool (y4.2))), (36, (V.bool (!(y4.2)))), (37, (V.bool true)), (38, (V.tup [])), (39, (V.tup [])), (40, (V.tup [])), (41, (V.tup [])), (42, (V.bool true)), (43, (V.row 2 1 (List.length (z2.1)) z2c))], [(Blk.cells [(V.int .u64 (z2.2.1)), (V.int .u64 (z2.2.2.1)), (V.int .u64 (z2.2.2.2.1)), (V.int .u64 (z2.2.2.2.2.1)), (V.int .u64 (z2.2.2.2.2.2.1))]), (Blk.cells [(V.int .i64 (z2.2.2.2.2.2.2.1)), (V.int .i64 (z2.2.2.2.2.2.2.2.1))]), (Blk.row (.int .i64) (z2.1) 2 z2c)], []⟩))))) (req true (req true (req true (req true (req true (br (decide ((y4.1) > (z2.2.2.2.2.2.2.2.1))) (req true (req true (req true (wkK 2 K .ret ⟨[(3, (V.ptr 0 0)), (4, (V.ptr 1 0)), (6, (V.row 2 1 (List.length (z2.1)) z2c)), (7, (V.int .i64 0)), (9, (V.row 2 1 (List.length (z2.1)) z2c)), (10, (V.int .i64 (z2.2.2.2.2.2.2.2.2.1))), (26, (V.int .i64 (z2.2.2.2.2.2.2.2.2.2.1))), (27, (V.int .i64 (z2.2.2.2.2.2.2.2.2.2.2))), (28, (V.bool (decide ((z2.2.2.2.2.2.2.2.2.2.2) < (z2.2.2.2.2.2.2.2.2.2.1))))), (30, (V.agg [(V.int .u64 (z2.2.1)), (V.int .u64 (z2.2.2.1)), (V.int .u64 (z2.2.2.2.1)), (V.int .u64 (z2.2.2.2.2.1)), (V.int .u64 (z2.2.2.2.2.2.1))])), (31, (V.int .i64 (z2.2.2.2.2.2.2.2.2.1))), (32, (V.tup [(V.int .i64 (y4.1)), (V.bool (y4.2))])), (29, (V.tup [(V.int .i64 (y4.1)), (V.bool (y4.2))])), (33, (V.int .i64 (y4.1))), (34, (V.bool (y4.2))), (11, (V.int .i64 (y4.1))), (12, (V.bool (y4.2))), (35, (V.bool (y4.2))), (36, (V.bool (!(y4.2)))), (37, (V.bool false)), (38, (V.int .i64 (y4.1))), (39, (V.ptr 1 1)), (40, (V.int .i64 (z2.2.2.2.2.2.2.2.1))), (41, (V.bool (decide ((y4.1) > (z2.2.2.2.2.2.2.2.1))))), (42, (V.bool (decide ((y4.1) > (z2.2.2.2.2.2.2.2.1))))), (43, (V.row 2 1 (List.length (z2.1)) z2c))], [(Blk.cells [(V.int .u64 (z2.2.1)), (V.int .u64 (z2.2.2.1)), (V.int .u64 (z2.2.2.2.1)), (V.int .u64 (z2.2.2.2.2.1)), (V.int .u64 (z2.2.2.2.2.2.1))]), (Blk.cells [(V.int .i64 (z2.2.2.2.2.2.2.1)), (V.int .i64 (z2.2.2.2.2.2.2.2.1))]), (Blk.row (.int .i64) (z2.1) 2 z2c)], []⟩)))) (req true (req true (req (((((true && true) && true) && (Nat.beq (List.length (z2.1)) (List.length (z2.1)))) && (Nat.beq z2c z2c)) && (Nat.ble ((List.length ((z2.1) ++ [(y4.1)])) * 9) 140737488355328)) (∀ c5 : Nat, (req true (req true (req true (req true (req true (next ⟨[(3, (V.ptr 0 0)), (4, (V.ptr 1 0)), (6, (V.old (.slice none 0 0))), (7, (V.int .i64 0)), (9, (V.row 4 1 (List.length ((z2.1) ++ [(y4.1)])) c5)), (10, (V.int .i64 (y4.1))), (26, (V.int .i64 (z2.2.2.2.2.2.2.2.2.2.1))), (27, (V.int .i64 (IntKind.wrap .i64 ((z2.2.2.2.2.2.2.2.2.2.2) + 1)))), (28, (V.bool (decide ((z2.2.2.2.2.2.2.2.2.2.2) < (z2.2.2.2.2.2.2.2.2.2.1))))), (30, (V.agg [(V.int .u64 (z2.2.1)), (V.int .u64 (z2.2.2.1)), (V.int .u64 (z2.2.2.2.1)), (V.int .u64 (z2.2.2.2.2.1)), (V.int .u64 (z2.2.2.2.2.2.1))])), (31, (V.int .i64 (z2.2.2.2.2.2.2.2.2.1))), (32, (V.tup [(V.int .i64 (y4.1)), (V.bool (y4.2))])), (29, (V.tup [(V.int .i64 (y4.1)), (V.bool (y4.2))])), (33, (V.int .i64 (y4.1))), (34, (V.bool (y4.2))), (11, (V.int .i64 (y4.1))), (12, (V.bool (y4.2))), (35, (V.bool (y4.2))), (36, (V.bool (!(y4.2)))), (37, (V.bool false)), (38, (V.int .i64 (y4.1))), (39, (V.ptr 1 1)), (40, (V.int .i64 (z2.2.2.2.2.2.2.2.1))), (41, (V.bool (decide ((y4.1) > (z2.2.2.2.2.2.2.2.1))))), (42, (V.bool (decide ((y4.1) > (z2.2.2.2.2.2.2.2.1))))), (44, (V.row 2 1 (List.length (z2.1)) z2c)), (45, (V.int .i64 (y4.1))), (46, (V.slc 3 0 1 1)), (47, (V.row 4 1 (List.length ((z2.1) ++ [(y4.1)])) c5)), (48, (V.int .i64 (y4.1))), (49, (V.int .i64 (IntKind.wrap .i64 ((z2.2.2.2.2.2.2.2.2.2.2) + 1))))], [(Blk.cells [(V.int .u64 (z2.2.1)), (V.int .u64 (z2.2.2.1)), (V.int .u64 (z2.2.2.2.1)), (V.int .u64 (z2.2.2.2.2.1)), (V.int .u64 (z2.2.2.2.2.2.1))]), (Blk.cells [(V.int .i64 (z2.2.2.2.2.2.2.1)), (V.int .i64 (z2.2.2.2.2.2.2.2.1))]), Blk.dead, (Blk.cells [(V.int .i64 (y4.1))]), (Blk.row (.int .i64) ((z2.1) ++ [(y4.1)]) 2 c5)], []⟩))))))))))))))))))))))))))))) (wkK 2 K (.exit 0) ⟨[(3, (V.ptr 0 0)), (4, (V.ptr 1 0)), (6, (V.old (.slice none 0 0))), (7, (V.int .i64 0)), (9, (V.row 2 1 (List.length (z2.1)) z2c)), (10, (V.int .i64 (z2.2.2.2.2.2.2.2.2.1))), (26, (V.int .i64 (z2.2.2.2.2.2.2.2.2.2.1))), (27, (V.int .i64 (z2.2.2.2.2.2.2.2.2.2.2))), (28, (V.bool (decide ((z2.2.2.2.2.2.2.2.2.2.2) < (z2.2.2.2.2.2.2.2.2.2.1)))))], [(Blk.cells [(V.int .u64 (z2.2.1)), (V.int .u64 (z2.2.2.1)), (V.int .u64 (z2.2.2.2.1)), (V.int .u64 (z2.2.2.2.2.1)), (V.int .u64 (z2.2.2.2.2.2.1))]), (Blk.cells [(V.int .i64 (z2.2.2.2.2.2.2.1)), (V.int .i64 (z2.2.2.2.2.2.2.2.1))]), (Blk.row (.int .i64) (z2.1) 2 z2c)], []⟩))) := by kernel_rfl
theorem next_Some_l0_ok (n : Nat) : Owed next_Some_cx 13 next_Some_lp (n + 1) next_Some_l0_lp := loop_owed (fun z y h => h) fun k z2 z2q z2c y3_ K h hK next hnext => by
  refine cast (next_Some_l0_round n z2 z2q z2c K next).symm ?_
  simp only [next_Some_l0] at h
  refine req_intro rfl ?_
  refine br_both h (fun hb h => ?_) (fun hb h => ?_)
  · iterate 3 refine req_intro rfl ?_
    obtain ⟨y4, ry4, h⟩ := h
    refine ⟨y4, ry4, ?_⟩
    iterate 8 refine req_intro rfl ?_
    refine br_both h (fun hb h => ?_) (fun hb h => ?_)
    · iterate 4 refine req_intro rfl ?_
      subst h
      refine ⟨_, ?_, hK z2c⟩
      exact wk_of (Or.inr ⟨⟨Or.inl rfl, Or.inl rfl, Or.inl rfl, trivial⟩, ⟨Or.inl rfl, Or.inl rfl, Or.inl rfl, trivial⟩, rfl, rfl, rfl⟩)
    · iterate 5 refine req_intro rfl ?_
      refine br_both h (fun hb h => ?_) (fun hb h => ?_)
      · iterate 3 refine req_intro rfl ?_
        subst h
        refine ⟨_, ?_, hK z2c⟩
        exact wk_of (Or.inr ⟨⟨Or.inl rfl, Or.inl rfl, Or.inl rfl, trivial⟩, ⟨Or.inl rfl, Or.inl rfl, Or.inl rfl, trivial⟩, rfl, rfl, rfl⟩)
      · iterate 2 refine req_intro rfl ?_
        obtain ⟨q, h⟩ := req_of h
        refine req_intro (band (band (band (band (band rfl rfl) rfl) (Nat.beq_refl _)) (Nat.beq_refl _)) q) ?_
        intro c5
        iterate 5 refine req_intro rfl ?_
        exact hnext (((z2.1) ++ [(y4.1)]), (z2.2.1), (z2.2.2.1), (z2.2.2.2.1), (z2.2.2.2.2.1), (z2.2.2.2.2.2.1), (z2.2.2.2.2.2.2.1), (z2.2.2.2.2.2.2.2.1), (y4.1), (z2.2.2.2.2.2.2.2.2.2.1), (IntKind.wrap .i64 ((z2.2.2.2.2.2.2.2.2.2.2) + 1))) _ h hK ⟨c5, ⟨_, ⟨[(3, (V.ptr 0 0)), (4, (V.ptr 1 0)), (6, (V.old (.slice none 0 0))), (7, (V.int .i64 0)), (9, (V.row 2 1 (List.length ((z2.1) ++ [(y4.1)])) c5)), (10, (V.int .i64 (y4.1))), (26, (V.int .i64 (z2.2.2.2.2.2.2.2.2.2.1))), (27, (V.int .i64 (IntKind.wrap .i64 ((z2.2.2.2.2.2.2.2.2.2.2) + 1))))], [(Blk.cells [(V.int .u64 (z2.2.1)), (V.int .u64 (z2.2.2.1)), (V.int .u64 (z2.2.2.2.1)), (V.int .u64 (z2.2.2.2.2.1)), (V.int .u64 (z2.2.2.2.2.2.1))]), (Blk.cells [(V.int .i64 (z2.2.2.2.2.2.2.1)), (V.int .i64 (z2.2.2.2.2.2.2.2.1))]), (Blk.row (.int .i64) ((z2.1) ++ [(y4.1)]) 2 c5)], []⟩, ⟨[], rfl, rfl⟩, Or.inr ⟨[0, 1, 4], rfl, rfl, rfl, rfl, rfl, ⟨rfl, rfl, rfl, rfl, rfl, rfl, rfl, rfl, trivial⟩, ⟨Or.inr rfl, Or.inr rfl, Or.inr rfl, trivial⟩, rfl, rfl⟩, Or.inr ⟨⟨Or.inl rfl, Or.inl rfl, Or.inl rfl, Or.inl rfl, Or.inl rfl, Or.inl rfl, Or.inl rfl, Or.inl rfl, trivial⟩, ⟨Or.inl rfl, Or.inl rfl, Or.inl rfl, trivial⟩, rfl, rfl, rfl⟩⟩⟩
  · subst h
    refine ⟨_, ?_, hK z2c⟩
    exact wk_of (Or.inr ⟨⟨Or.inl rfl, Or.inl rfl, Or.inl rfl, trivial⟩, ⟨Or.inl rfl, Or.inl rfl, Or.inl rfl, trivial⟩, rfl, rfl, rfl⟩)
theorem next_Some_lpok : LpOk next_Some_cx okT next_Some_lp := LpOk_tab ⟨next_Some_l0_ok, trivial⟩
def next_Some_R (a0 : Int) (a1 : Int) (a2 : Int) (a3 : Int) (a4 : Int) (a5 : Int) (a6 : Int) (a7 : Int) (y : List Int × Int) : Prop :=
  (∃ y1 : Int, (cron_Check_R a0 a1 a2 a3 a4 y1) ∧ (br (y1 != 0) (([], y1) = y) (br (decide (a7 < 0)) (([], 2) = y) (br (decide (a7 > 64)) (([], 2) = y) (∃ y7 : next_Some_l0_Y, next_Some_l0_L ([], a0, a1, a2, a3, a4, a5, a6, a5, a7, 0) y7 ∧ sume (fun y7 => ((y7, 0) = y)) (fun y7 => ((y7, 0) = y)) y7)))))
theorem next_Some_tree (a0 : Int) (a1 : Int) (a2 : Int) (a3 : Int) (a4 : Int) (a5 : Int) (a6 : Int) (a7 : Int) (y : List Int × Int) : acall next_Some_cx okT next_Some_lp 60 (.fn 13 [] []) [(V.agg [(V.int .u64 a0), (V.int .u64 a1), (V.int .u64 a2), (V.int .u64 a3), (V.int .u64 a4)]), (V.agg [(V.int .i64 a5), (V.int .i64 a6)]), (V.int .i64 a7)] [] (leafK (.tup (.cons (.nw (.int .i64) 2) (.one (.int .i64)))) y) =
    (req true (req true (req true (req true (∃ y1 : Int, (cron_Check_R a0 a1 a2 a3 a4 y1) ∧ (req true (req true (req true (br (y1 != 0) (req true (req true (req true (req true (([], y1) = y))))) (req true (req true (req true (br (decide (a7 < 0)) (req true (req true (req true (req true (([], 2) = y))))) (req true (req true (req true (br (decide (a7 > 64)) (req true (req true (req true (([], 2) = y)))) (req true (req true (req true (req true (req true (req true (((none : Option Nat) = (none : Option Nat)) ∧ (next_Some_l0_body = next_Some_l0_body) ∧ ∃ z6 : next_Some_l0_Z, ∃ z6q : next_Some_l0_Q, ∃ y7 : next_Some_l0_Y, (2 = 2) ∧ (∃ zc : next_Some_l0_C, wk 2 ⟨[(0, (V.agg [(V.int .u64 a0), (V.int .u64 a1), (V.int .u64 a2), (V.int .u64 a3), (V.int .u64 a4)])), (1, (V.agg [(V.int .i64 a5), (V.int .i64 a6)])), (2, (V.int .i64 a7)), (3, (V.ptr 0 0)), (4, (V.ptr 1 0)), (6, (V.old (.slice none 0 0))), (7, (V.int .i64 0)), (13, (V.agg [(V.int .u64 a0), (V.int .u64 a1), (V.int .u64 a2), (V.int .u64 a3), (V.int .u64 a4)])), (14, (V.int .i64 y1)), (8, (V.int .i64 y1)), (15, (V.int .i64 y1)), (16, (V.bool (y1 != 0))), (18, (V.int .i64 a7)), (19, (V.bool (decide (a7 < 0)))), (20, (V.bool false)), (21, (V.int .i64 a7)), (22, (V.bool (decide (a7 > 64)))), (23, (V.bool (decide (a7 > 64)))), (9, (V.old (.slice none 0 0))), (24, (V.ptr 1 0)), (25, (V.int .i64 a5)), (10, (V.int .i64 a5)), (26, (V.int .i64 a7)), (27, (V.int .i64 0))], [(Blk.cells [(V.int .u64 a0), (V.int .u64 a1), (V.int .u64 a2), (V.int .u64 a3), (V.int .u64 a4)]), (Blk.cells [(V.int .i64 a5), (V.int .i64 a6)])], []⟩ (next_Some_l0_st z6 z6q zc)) ∧ (∃ k, next_Some_l0 k z6 y7) ∧ sume (fun y7 => (∀ y7c : Nat, (req (((Nat.beq (List.length y7) (List.length y7)) && (Nat.beq y7c y7c)) && true) ((y7, 0) = y)))) (fun y7 => (∀ y7c : Nat, (req true (req true (req true (req (((Nat.beq (List.length y7) (List.length y7)) && (Nat.beq y7c y7c)) && true) ((y7, 0) = y))))))) y7)))))))))))))))))))))))) := by kernel_rfl
theorem next_Some_run (a0 : Int) (a1 : Int) (a2 : Int) (a3 : Int) (a4 : Int) (a5 : Int) (a6 : Int) (a7 : Int) (y : List Int × Int) (h : next_Some_R a0 a1 a2 a3 a4 a5 a6 a7 y) : acall next_Some_cx okT next_Some_lp 60 (.fn 13 [] []) [(V.agg [(V.int .u64 a0), (V.int .u64 a1), (V.int .u64 a2), (V.int .u64 a3), (V.int .u64 a4)]), (V.agg [(V.int .i64 a5), (V.int .i64 a6)]), (V.int .i64 a7)] [] (leafK (.tup (.cons (.nw (.int .i64) 2) (.one (.int .i64)))) y) := by
  refine cast (next_Some_tree a0 a1 a2 a3 a4 a5 a6 a7 y).symm ?_
  unfold next_Some_R at h
  iterate 4 refine req_intro rfl ?_
  obtain ⟨y1, ry1, h⟩ := h
  refine ⟨y1, ry1, ?_⟩
  iterate 3 refine req_intro rfl ?_
  refine br_both h (fun hb h => ?_) (fun hb h => ?_)
  · iterate 3 refine req_intro rfl ?_
    exact req_intro rfl h
  · iterate 3 refine req_intro rfl ?_
    refine br_both h (fun hb h => ?_) (fun hb h => ?_)
    · iterate 3 refine req_intro rfl ?_
      exact req_intro rfl h
    · iterate 3 refine req_intro rfl ?_
      refine br_both h (fun hb h => ?_) (fun hb h => ?_)
      · iterate 2 refine req_intro rfl ?_
        exact req_intro rfl h
      · iterate 6 refine req_intro rfl ?_
        obtain ⟨y7, ry7, h⟩ := h
        refine ⟨rfl, rfl, ([], a0, a1, a2, a3, a4, a5, a6, a5, a7, 0), (), y7, rfl, ⟨0, ⟨_, ⟨[(3, (V.ptr 0 0)), (4, (V.ptr 1 0)), (6, (V.old (.slice none 0 0))), (7, (V.int .i64 0)), (9, (V.old (.slice none 0 0))), (10, (V.int .i64 a5)), (26, (V.int .i64 a7)), (27, (V.int .i64 0))], [(Blk.cells [(V.int .u64 a0), (V.int .u64 a1), (V.int .u64 a2), (V.int .u64 a3), (V.int .u64 a4)]), (Blk.cells [(V.int .i64 a5), (V.int .i64 a6)]), Blk.dead], []⟩, ⟨[], rfl, rfl⟩, Or.inr ⟨[0, 1, 0], rfl, rfl, rfl, rfl, rfl, ⟨rfl, rfl, rfl, rfl, rfl, rfl, rfl, rfl, trivial⟩, ⟨Or.inr rfl, Or.inr rfl, Or.inl rfl, trivial⟩, rfl, rfl⟩, Or.inr ⟨⟨Or.inl rfl, Or.inl rfl, Or.inl rfl, Or.inl rfl, Or.inr (Or.inr (Or.inl ⟨rfl, Or.inl ⟨_, _, rfl⟩⟩)), Or.inl rfl, Or.inl rfl, Or.inl rfl, trivial⟩, ⟨Or.inl rfl, Or.inl rfl, Or.inr (Or.inr (Or.inl ⟨_, _, rfl⟩)), trivial⟩, rfl, rfl, rfl⟩⟩⟩, ry7, ?_⟩
        refine sume_both h (fun y7 h => ?_) (fun y7 h => ?_)
        · intro y7c
          exact req_intro (band (band (Nat.beq_refl _) (Nat.beq_refl _)) rfl) h
        · intro y7c
          iterate 3 refine req_intro rfl ?_
          exact req_intro (band (band (Nat.beq_refl _) (Nat.beq_refl _)) rfl) h
theorem next_Some_ok : FxOk Tryd.prog gsT 13 (.cons (.agg (.cons (.int .u64) (.cons (.int .u64) (.cons (.int .u64) (.cons (.int .u64) (.one (.int .u64))))))) (.cons (.agg (.cons (.int .i64) (.one (.int .i64)))) (.one (.int .i64)))) (.tup (.cons (.nw (.int .i64) 2) (.one (.int .i64)))) fun x y => next_Some_R (x.1.1) (x.1.2.1) (x.1.2.2.1) (x.1.2.2.2.1) (x.1.2.2.2.2) (x.2.1.1) (x.2.1.2) (x.2.2) y := fx_of (c := next_Some_cx) (ty_ok rfl) (eq_ok rfl) next_Some_fns follows_ok (ok := okT) (lp := next_Some_lp) (n := 60) next_Some_lpok (enters Tryd.func13 (by kernel_rfl) rfl) (fun y => ⟨_, rfl⟩) fun x y h => next_Some_run _ _ _ _ _ _ _ _ y h
noncomputable def slices_Equal__int64_int64_cx : Cx := ⟨tyT, [(16, .body Tryd.f16)], gsT, eqT⟩
theorem slices_Equal__int64_int64_fns : FnsOk Tryd.prog slices_Equal__int64_int64_cx := Fns_assoc ⟨body_ent Tryd.func16 (by kernel_rfl) (by kernel_rfl), trivial⟩
noncomputable def slices_Equal__int64_int64_l0_body : Code := subC [1, 1, 0, 1, 0, 0] (bodyOf Tryd.f16)
abbrev slices_Equal__int64_int64_l0_Z : Type := List Int × List Int × Int × Int
abbrev slices_Equal__int64_int64_l0_Y : Type := (Unit) ⊕ (Unit)
abbrev slices_Equal__int64_int64_l0_C : Type := Unit
abbrev slices_Equal__int64_int64_l0_Q : Type := Unit
noncomputable def slices_Equal__int64_int64_l0_st (z1 : slices_Equal__int64_int64_l0_Z) (z1q : slices_Equal__int64_int64_l0_Q) (z1c : slices_Equal__int64_int64_l0_C) : S := ⟨[(0, (V.sl (.int .i64) (z1.1) none)), (1, (V.sl (.int .i64) (z1.2.1) none)), (4, (V.bool false)), (12, (V.int .i64 (z1.2.2.1))), (13, (V.int .i64 (z1.2.2.2)))], [], []⟩
def slices_Equal__int64_int64_l0_K (K : Ret → S → Prop) (z1 : slices_Equal__int64_int64_l0_Z) (z1q : slices_Equal__int64_int64_l0_Q) (y2 : slices_Equal__int64_int64_l0_Y) : Prop := sume (fun y2 => K .ret ⟨[(4, (V.bool false))], [], []⟩) (fun y2 => K (.exit 0) ⟨[(4, (V.bool false))], [], []⟩) y2
def slices_Equal__int64_int64_l0 : Nat → slices_Equal__int64_int64_l0_Z → slices_Equal__int64_int64_l0_Y → Prop
  | 0, _, _ => False
  | k + 1, z1, y2_ => (br (decide ((z1.2.2.2) < (z1.2.2.1))) (req ((decide (0 ≤ (z1.2.2.2))) && (decide ((z1.2.2.2) < (((List.length (z1.1)) : Nat) : Int)))) (req ((decide (0 ≤ (z1.2.2.2))) && (decide ((z1.2.2.2) < (((List.length (z1.2.1)) : Nat) : Int)))) (br ((List.getD (z1.1) (Int.toNat (z1.2.2.2)) 0) != (List.getD (z1.2.1) (Int.toNat (z1.2.2.2)) 0)) ((Sum.inl ()) = y2_) (slices_Equal__int64_int64_l0 k ((z1.1), (z1.2.1), (z1.2.2.1), (IntKind.wrap .i64 ((z1.2.2.2) + 1))) y2_)))) ((Sum.inr ()) = y2_))
def slices_Equal__int64_int64_l0_L (z : slices_Equal__int64_int64_l0_Z) (y : slices_Equal__int64_int64_l0_Y) : Prop := ∃ k, slices_Equal__int64_int64_l0 k z y
noncomputable def slices_Equal__int64_int64_l0_lp : Lp := .auto none slices_Equal__int64_int64_l0_body (loopG 0 slices_Equal__int64_int64_l0_st (fun z y => ∃ k, slices_Equal__int64_int64_l0 k z y) slices_Equal__int64_int64_l0_K)
noncomputable def slices_Equal__int64_int64_lp : Nat → FuncId → Nat → Nat → Lp := lpTab [(16, 4, 0, 0, slices_Equal__int64_int64_l0_lp)]
theorem slices_Equal__int64_int64_l0_round (n : Nat) (z1 : slices_Equal__int64_int64_l0_Z) (z1q : slices_Equal__int64_int64_l0_Q) (z1c : slices_Equal__int64_int64_l0_C) (K : Ret → S → Prop) (next : S → Prop) : acode slices_Equal__int64_int64_cx 16 (acall slices_Equal__int64_int64_cx okT slices_Equal__int64_int64_lp (n + 0)) kept (slices_Equal__int64_int64_lp (n + 0) 16) none slices_Equal__int64_int64_l0_body (iterK (wkK 0 K) next) (slices_Equal__int64_int64_l0_st z1 z1q z1c) =
    (req true (br (decide ((z1.2.2.2) < (z1.2.2.1))) (req true (req true (req true (req true (req true (req ((decide (0 ≤ (z1.2.2.2))) && (decide ((z1.2.2.2) < (((List.length (z1.1)) : Nat) : Int)))) (req true (req true (req true (req ((decide (0 ≤ (z1.2.2.2))) && (decide ((z1.2.2.2) < (((List.length (z1.2.1)) : Nat) : Int)))) (req true (req true (br ((List.getD (z1.1) (Int.toNat (z1.2.2.2)) 0) != (List.getD (z1.2.1) (Int.toNat (z1.2.2.2)) 0)) (req true (wkK 0 K .ret ⟨[(0, (V.sl (.int .i64) (z1.1) none)), (1, (V.sl (.int .i64) (z1.2.1) none)), (4, (V.bool false)), (12, (V.int .i64 (z1.2.2.1))), (13, (V.int .i64 (z1.2.2.2))), (14, (V.bool (decide ((z1.2.2.2) < (z1.2.2.1))))), (15, (V.int .i64 (z1.2.2.2))), (5, (V.int .i64 (z1.2.2.2))), (16, (V.sl (.int .i64) (z1.1) none)), (17, (V.int .i64 (z1.2.2.2))), (18, (V.sp (.int .i64) (List.getD (z1.1) (Int.toNat (z1.2.2.2)) 0) 0)), (19, (V.int .i64 (List.getD (z1.1) (Int.toNat (z1.2.2.2)) 0))), (20, (V.sl (.int .i64) (z1.2.1) none)), (21, (V.int .i64 (z1.2.2.2))), (22, (V.sp (.int .i64) (List.getD (z1.2.1) (Int.toNat (z1.2.2.2)) 0) 0)), (23, (V.int .i64 (List.getD (z1.2.1) (Int.toNat (z1.2.2.2)) 0))), (24, (V.bool ((List.getD (z1.1) (Int.toNat (z1.2.2.2)) 0) != (List.getD (z1.2.1) (Int.toNat (z1.2.2.2)) 0))))], [], []⟩)) (req true (req true (next ⟨[(0, (V.sl (.int .i64) (z1.1) none)), (1, (V.sl (.int .i64) (z1.2.1) none)), (4, (V.bool false)), (12, (V.int .i64 (z1.2.2.1))), (13, (V.int .i64 (IntKind.wrap .i64 ((z1.2.2.2) + 1)))), (14, (V.bool (decide ((z1.2.2.2) < (z1.2.2.1))))), (15, (V.int .i64 (z1.2.2.2))), (5, (V.int .i64 (z1.2.2.2))), (16, (V.sl (.int .i64) (z1.1) none)), (17, (V.int .i64 (z1.2.2.2))), (18, (V.sp (.int .i64) (List.getD (z1.1) (Int.toNat (z1.2.2.2)) 0) 0)), (19, (V.int .i64 (List.getD (z1.1) (Int.toNat (z1.2.2.2)) 0))), (20, (V.sl (.int .i64) (z1.2.1) none)), (21, (V.int .i64 (z1.2.2.2))), (22, (V.sp (.int .i64) (List.getD (z1.2.1) (Int.toNat (z1.2.2.2)) 0) 0)), (23, (V.int .i64 (List.getD (z1.2.1) (Int.toNat (z1.2.2.2)) 0))), (24, (V.bool ((List.getD (z1.1) (Int.toNat (z1.2.2.2)) 0) != (List.getD (z1.2.1) (Int.toNat (z1.2.2.2)) 0)))), (25, (V.int .i64 (IntKind.wrap .i64 ((z1.2.2.2) + 1))))], [], []⟩)))))))))))))))) (wkK 0 K (.exit 0) ⟨[(0, (V.sl (.int .i64) (z1.1) none)), (1, (V.sl (.int .i64) (z1.2.1) none)), (4, (V.bool false)), (12, (V.int .i64 (z1.2.2.1))), (13, (V.int .i64 (z1.2.2.2))), (14, (V.bool (decide ((z1.2.2.2) < (z1.2.2.1)))))], [], []⟩))) := by kernel_rfl
theorem slices_Equal__int64_int64_l0_ok (n : Nat) : Owed slices_Equal__int64_int64_cx 16 slices_Equal__int64_int64_lp (n + 0) slices_Equal__int64_int64_l0_lp := loop_owed (fun z y h => h) fun k z1 z1q z1c y2_ K h hK next hnext => by
  refine cast (slices_Equal__int64_int64_l0_round n z1 z1q z1c K next).symm ?_
  simp only [slices_Equal__int64_int64_l0] at h
  refine req_intro rfl ?_
  refine br_both h (fun hb h => ?_) (fun hb h => ?_)
  · iterate 5 refine req_intro rfl ?_
    obtain ⟨q, h⟩ := req_of h
    refine req_intro (band (band_l q) (band_r q)) ?_
    iterate 3 refine req_intro rfl ?_
    obtain ⟨q, h⟩ := req_of h
    refine req_intro (band (band_l q) (band_r q)) ?_
    iterate 2 refine req_intro rfl ?_
    refine br_both h (fun hb h => ?_) (fun hb h => ?_)
    · refine req_intro rfl ?_
      subst h
      refine ⟨_, ?_, hK⟩
      exact wk_of (Or.inr ⟨⟨Or.inl rfl, trivial⟩, trivial, rfl, rfl, rfl⟩)
    · iterate 2 refine req_intro rfl ?_
      exact hnext ((z1.1), (z1.2.1), (z1.2.2.1), (IntKind.wrap .i64 ((z1.2.2.2) + 1))) _ h hK ⟨(), wk_of (Or.inr ⟨⟨Or.inl rfl, Or.inl rfl, Or.inl rfl, Or.inl rfl, Or.inl rfl, trivial⟩, trivial, rfl, rfl, rfl⟩)⟩
  · subst h
    refine ⟨_, ?_, hK⟩
    exact wk_of (Or.inr ⟨⟨Or.inl rfl, trivial⟩, trivial, rfl, rfl, rfl⟩)
theorem slices_Equal__int64_int64_lpok : LpOk slices_Equal__int64_int64_cx okT slices_Equal__int64_int64_lp := LpOk_tab ⟨slices_Equal__int64_int64_l0_ok, trivial⟩
def slices_Equal__int64_int64_R (a0 : List Int) (a1 : List Int) (y : Bool) : Prop :=
  (br ((((List.length a0) : Nat) : Int) != (((List.length a1) : Nat) : Int)) (false = y) (∃ y4 : slices_Equal__int64_int64_l0_Y, slices_Equal__int64_int64_l0_L (a0, a1, (((List.length a0) : Nat) : Int), 0) y4 ∧ sume (fun y4 => (false = y)) (fun y4 => (true = y)) y4))
theorem slices_Equal__int64_int64_tree (a0 : List Int) (a1 : List Int) (y : Bool) : acall slices_Equal__int64_int64_cx okT slices_Equal__int64_int64_lp 60 (.fn 16 [] []) [(V.sl (.int .i64) a0 none), (V.sl (.int .i64) a1 none)] [] (leafK .bool y) =
    (req true (req true (req true (req true (req true (req true (br ((((List.length a0) : Nat) : Int) != (((List.length a1) : Nat) : Int)) (req true (req true (false = y))) (req true (req true (req true (((none : Option Nat) = (none : Option Nat)) ∧ (slices_Equal__int64_int64_l0_body = slices_Equal__int64_int64_l0_body) ∧ ∃ z3 : slices_Equal__int64_int64_l0_Z, ∃ z3q : slices_Equal__int64_int64_l0_Q, ∃ y4 : slices_Equal__int64_int64_l0_Y, (0 = 0) ∧ (∃ zc : slices_Equal__int64_int64_l0_C, wk 0 ⟨[(0, (V.sl (.int .i64) a0 none)), (1, (V.sl (.int .i64) a1 none)), (4, (V.bool false)), (6, (V.sl (.int .i64) a0 none)), (7, (V.int .i64 (((List.length a0) : Nat) : Int))), (8, (V.sl (.int .i64) a1 none)), (9, (V.int .i64 (((List.length a1) : Nat) : Int))), (10, (V.bool ((((List.length a0) : Nat) : Int) != (((List.length a1) : Nat) : Int)))), (11, (V.sl (.int .i64) a0 none)), (12, (V.int .i64 (((List.length a0) : Nat) : Int))), (13, (V.int .i64 0))], [], []⟩ (slices_Equal__int64_int64_l0_st z3 z3q zc)) ∧ (∃ k, slices_Equal__int64_int64_l0 k z3 y4) ∧ sume (fun y4 => (req true (false = y))) (fun y4 => (req true (req true (true = y)))) y4))))))))))) := by kernel_rfl
theorem slices_Equal__int64_int64_run (a0 : List Int) (a1 : List Int) (y : Bool) (h : slices_Equal__int64_int64_R a0 a1 y) : acall slices_Equal__int64_int64_cx okT slices_Equal__int64_int64_lp 60 (.fn 16 [] []) [(V.sl (.int .i64) a0 none), (V.sl (.int .i64) a1 none)] [] (leafK .bool y) := by
  refine cast (slices_Equal__int64_int64_tree a0 a1 y).symm ?_
  unfold slices_Equal__int64_int64_R at h
  iterate 6 refine req_intro rfl ?_
  refine br_both h (fun hb h => ?_) (fun hb h => ?_)
  · refine req_intro rfl ?_
    exact req_intro rfl h
  · iterate 3 refine req_intro rfl ?_
    obtain ⟨y4, ry4, h⟩ := h
    refine ⟨rfl, rfl, (a0, a1, (((List.length a0) : Nat) : Int), 0), (), y4, rfl, ⟨(), wk_of (Or.inr ⟨⟨Or.inl rfl, Or.inl rfl, Or.inl rfl, Or.inl rfl, Or.inl rfl, trivial⟩, trivial, rfl, rfl, rfl⟩)⟩, ry4, ?_⟩
    refine sume_both h (fun y4 h => ?_) (fun y4 h => ?_)
    · exact req_intro rfl h
    · refine req_intro rfl ?_
      exact req_intro rfl h
theorem slices_Equal__int64_int64_ok : FxOk Tryd.prog gsT 16 (.cons (.sl (.int .i64)) (.one (.sl (.int .i64)))) .bool fun x y => slices_Equal__int64_int64_R (x.1) (x.2) y := fx_of (c := slices_Equal__int64_int64_cx) (ty_ok rfl) (eq_ok rfl) slices_Equal__int64_int64_fns follows_ok (ok := okT) (lp := slices_Equal__int64_int64_lp) (n := 60) slices_Equal__int64_int64_lpok (enters Tryd.func16 (by kernel_rfl) rfl) (fun y => ⟨_, rfl⟩) fun x y h => slices_Equal__int64_int64_run _ _ y h
noncomputable def next_Last_cx : Cx := ⟨tyT, [(18, .body Tryd.f18),
  (23, .fx (.one (.agg (.cons (.int .u64) (.cons (.int .u64) (.cons (.int .u64) (.cons (.int .u64) (.one (.int .u64)))))))) (.int .i64) fun x y => cron_Check_R (x.1) (x.2.1) (x.2.2.1) (x.2.2.2.1) (x.2.2.2.2) y),
  (39, .body Tryd.f39),
  (40, .fx (.one (.int .i64)) (.int .i64) fun x y => next_of_R x y),
  (42, .body Tryd.f42),
  (52, .fx (.cons (.agg (.cons (.int .u64) (.cons (.int .u64) (.cons (.int .u64) (.cons (.int .u64) (.one (.int .u64))))))) (.one (.agg (.cons (.int .i64) (.cons (.int .i64) (.one (.int .i64))))))) .bool fun x y => cron_Day_R (x.1.1) (x.1.2.1) (x.1.2.2.1) (x.1.2.2.2.1) (x.1.2.2.2.2) (x.2.1) (x.2.2.1) (x.2.2.2) y),
  (76, .body Tryd.f76),
  (77, .body Tryd.f77),
  (84, .fx (.one (.int .i64)) (.tup (.cons (.agg (.cons (.int .i64) (.cons (.int .i64) (.one (.int .i64))))) (.one (.int .i64)))) fun x y => days_At_R x y),
  (105, .body Tryd.f105),
  (106, .body Tryd.f106),
  (107, .body Tryd.f107),
  (127, .body Tryd.f127),
  (128, .fx (.one (.int .u64)) (.nw (.int .i64) 3) fun x y => mask_All_R x y)], gsT, eqT⟩
theorem next_Last_fns : FnsOk Tryd.prog next_Last_cx := Fns_assoc ⟨body_ent Tryd.func18 (by kernel_rfl) (by kernel_rfl), cron_Check_ok, body_ent Tryd.func39 (by kernel_rfl) (by kernel_rfl), next_of_ok, body_ent Tryd.func42 (by kernel_rfl) (by kernel_rfl), cron_Day_ok, body_ent Tryd.func76 (by kernel_rfl) (by kernel_rfl), body_ent Tryd.func77 (by kernel_rfl) (by kernel_rfl), days_At_ok, body_ent Tryd.func105 (by kernel_rfl) (by kernel_rfl), body_ent Tryd.func106 (by kernel_rfl) (by kernel_rfl), body_ent Tryd.func107 (by kernel_rfl) (by kernel_rfl), body_ent Tryd.func127 (by kernel_rfl) (by kernel_rfl), mask_All_ok, trivial⟩
noncomputable def next_Last_l0_body : Code := subC [1, 1, 0, 0] (bodyOf Tryd.f127)
abbrev next_Last_l0_Z : Type := List Int × List Int × Int × Int × Int × Int × Int × Int × Int × Int × Int × Int
abbrev next_Last_l0_Y : Type := (Int) ⊕ (Unit)
abbrev next_Last_l0_C : Type := Unit
abbrev next_Last_l0_Q : Type := Nat × Nat
noncomputable def next_Last_l0_st (z13 : next_Last_l0_Z) (z13q : next_Last_l0_Q) (z13c : next_Last_l0_C) : S := ⟨[(0, (V.yld 21)), (2, (V.ptr 20 0)), (4, (V.row 22 1 (List.length (z13.2.1)) (z13q.2))), (9, (V.int .i64 (z13.2.2.2.2.2.2.2.2.2.2.1))), (10, (V.int .i64 (z13.2.2.2.2.2.2.2.2.2.2.2)))], [(Blk.cells [(V.int .u64 (z13.2.2.1)), (V.int .u64 (z13.2.2.2.1)), (V.int .u64 (z13.2.2.2.2.1)), (V.int .u64 (z13.2.2.2.2.2.1)), (V.int .u64 (z13.2.2.2.2.2.2.1))]), (Blk.cells [(V.int .i64 (z13.2.2.2.2.2.2.2.1))]), (Blk.cells [(V.int .u64 (z13.2.2.1)), (V.int .u64 (z13.2.2.2.1)), (V.int .u64 (z13.2.2.2.2.1)), (V.int .u64 (z13.2.2.2.2.2.1)), (V.int .u64 (z13.2.2.2.2.2.2.1))]), (Blk.cells [(V.fn 42 [] [(V.ptr 1 0)])]), (Blk.cells [(V.int .i64 0)]), (Blk.cells [(V.bool false)]), (Blk.cells [(V.int .u64 (z13.2.2.1)), (V.int .u64 (z13.2.2.2.1)), (V.int .u64 (z13.2.2.2.2.1)), (V.int .u64 (z13.2.2.2.2.2.1)), (V.int .u64 (z13.2.2.2.2.2.2.1))]), (Blk.cells [(V.int .u64 (z13.2.2.1)), (V.int .u64 (z13.2.2.2.1)), (V.int .u64 (z13.2.2.2.2.1)), (V.int .u64 (z13.2.2.2.2.2.1)), (V.int .u64 (z13.2.2.2.2.2.2.1))]), (Blk.cells [(V.int .i64 (z13.2.2.2.2.2.2.2.2.1))]), (Blk.cells [(V.bool true)]), Blk.dfr, (Blk.loop .ready none ⟨39, [37], (subC [1, 0, 1, 1, 1, 0, 1, 0, 0, 1, 1, 0, 0, 1, 1, 1, 1, 1, 0, 0] (bodyOf Tryd.f39)), (subC [1, 0, 1, 1, 1, 0, 1, 0, 0, 1, 1, 0, 0, 1, 1, 1, 1, 1, 0, 1] (bodyOf Tryd.f39)), [(7, (V.ptr 3 0)), (8, (V.ptr 4 0)), (9, (V.ptr 5 0))], 10⟩), (Blk.cells [(V.yld 11)]), (Blk.cells [(V.int .u64 (z13.2.2.2.1))]), (Blk.cells [(V.bool true)]), Blk.dfr, (Blk.loop .busy none ⟨106, [11], (subC [1, 1, 0, 0] (bodyOf Tryd.f106)), (subC [1, 1, 0, 1] (bodyOf Tryd.f106)), [(1, (V.ptr 7 0)), (2, (V.ptr 9 0)), (3, (V.ptr 8 0)), (4, (V.ptr 12 0))], 15⟩), (Blk.row (.int .i64) (z13.1) 3 (z13q.1)), (Blk.cells [(V.int .i64 (z13.2.2.2.2.2.2.2.2.2.1))]), (Blk.cells [(V.int .u64 (z13.2.2.1))]), (Blk.cells [(V.bool true)]), (Blk.loop .ready none ⟨106, [16], (subC [1, 1, 0, 1, 0, 1, 0, 0] (bodyOf Tryd.f106)), (subC [1, 1, 0, 1, 0, 1, 0, 1] (bodyOf Tryd.f106)), [(3, (V.ptr 8 0)), (4, (V.ptr 12 0)), (5, (V.ptr 18 0))], 15⟩), (Blk.row (.int .i64) (z13.2.1) 3 (z13q.2))], []⟩
def next_Last_l0_K (K : Ret → S → Prop) (z13 : next_Last_l0_Z) (z13q : next_Last_l0_Q) (y14 : next_Last_l0_Y) : Prop := sume (fun y14 => K .ret ⟨[], [(Blk.cells [(V.int .u64 (z13.2.2.1)), (V.int .u64 (z13.2.2.2.1)), (V.int .u64 (z13.2.2.2.2.1)), (V.int .u64 (z13.2.2.2.2.2.1)), (V.int .u64 (z13.2.2.2.2.2.2.1))]), (Blk.cells [(V.int .i64 (z13.2.2.2.2.2.2.2.1))]), (Blk.cells [(V.int .u64 (z13.2.2.1)), (V.int .u64 (z13.2.2.2.1)), (V.int .u64 (z13.2.2.2.2.1)), (V.int .u64 (z13.2.2.2.2.2.1)), (V.int .u64 (z13.2.2.2.2.2.2.1))]), (Blk.cells [(V.fn 42 [] [(V.ptr 1 0)])]), (Blk.cells [(V.int .i64 y14)]), (Blk.cells [(V.bool true)]), (Blk.cells [(V.int .u64 (z13.2.2.1)), (V.int .u64 (z13.2.2.2.1)), (V.int .u64 (z13.2.2.2.2.1)), (V.int .u64 (z13.2.2.2.2.2.1)), (V.int .u64 (z13.2.2.2.2.2.2.1))]), (Blk.cells [(V.int .u64 (z13.2.2.1)), (V.int .u64 (z13.2.2.2.1)), (V.int .u64 (z13.2.2.2.2.1)), (V.int .u64 (z13.2.2.2.2.2.1)), (V.int .u64 (z13.2.2.2.2.2.2.1))]), (Blk.cells [(V.int .i64 (z13.2.2.2.2.2.2.2.2.1))]), (Blk.cells [(V.bool true)]), Blk.dfr, (Blk.loop .done (some (.exit 0)) ⟨39, [37], (subC [1, 0, 1, 1, 1, 0, 1, 0, 0, 1, 1, 0, 0, 1, 1, 1, 1, 1, 0, 0] (bodyOf Tryd.f39)), (subC [1, 0, 1, 1, 1, 0, 1, 0, 0, 1, 1, 0, 0, 1, 1, 1, 1, 1, 0, 1] (bodyOf Tryd.f39)), [(7, (V.ptr 3 0)), (8, (V.ptr 4 0)), (9, (V.ptr 5 0))], 10⟩), (Blk.cells [(V.yld 11)]), (Blk.cells [(V.int .u64 (z13.2.2.2.1))]), (Blk.cells [(V.bool true)]), Blk.dfr, (Blk.loop .busy none ⟨106, [11], (subC [1, 1, 0, 0] (bodyOf Tryd.f106)), (subC [1, 1, 0, 1] (bodyOf Tryd.f106)), [(1, (V.ptr 7 0)), (2, (V.ptr 9 0)), (3, (V.ptr 8 0)), (4, (V.ptr 12 0))], 15⟩), (Blk.row (.int .i64) (z13.1) 3 (z13q.1)), (Blk.cells [(V.int .i64 (z13.2.2.2.2.2.2.2.2.2.1))]), (Blk.cells [(V.int .u64 (z13.2.2.1))]), (Blk.cells [(V.bool true)]), (Blk.loop .done (some .ret) ⟨106, [16], (subC [1, 1, 0, 1, 0, 1, 0, 0] (bodyOf Tryd.f106)), (subC [1, 1, 0, 1, 0, 1, 0, 1] (bodyOf Tryd.f106)), [(3, (V.ptr 8 0)), (4, (V.ptr 12 0)), (5, (V.ptr 18 0))], 15⟩), (Blk.row (.int .i64) (z13.2.1) 3 (z13q.2))], []⟩) (fun y14 => K (.exit 0) ⟨[], [(Blk.cells [(V.int .u64 (z13.2.2.1)), (V.int .u64 (z13.2.2.2.1)), (V.int .u64 (z13.2.2.2.2.1)), (V.int .u64 (z13.2.2.2.2.2.1)), (V.int .u64 (z13.2.2.2.2.2.2.1))]), (Blk.cells [(V.int .i64 (z13.2.2.2.2.2.2.2.1))]), (Blk.cells [(V.int .u64 (z13.2.2.1)), (V.int .u64 (z13.2.2.2.1)), (V.int .u64 (z13.2.2.2.2.1)), (V.int .u64 (z13.2.2.2.2.2.1)), (V.int .u64 (z13.2.2.2.2.2.2.1))]), (Blk.cells [(V.fn 42 [] [(V.ptr 1 0)])]), (Blk.cells [(V.int .i64 0)]), (Blk.cells [(V.bool false)]), (Blk.cells [(V.int .u64 (z13.2.2.1)), (V.int .u64 (z13.2.2.2.1)), (V.int .u64 (z13.2.2.2.2.1)), (V.int .u64 (z13.2.2.2.2.2.1)), (V.int .u64 (z13.2.2.2.2.2.2.1))]), (Blk.cells [(V.int .u64 (z13.2.2.1)), (V.int .u64 (z13.2.2.2.1)), (V.int .u64 (z13.2.2.2.2.1)), (V.int .u64 (z13.2.2.2.2.2.1)), (V.int .u64 (z13.2.2.2.2.2.2.1))]), (Blk.cells [(V.int .i64 (z13.2.2.2.2.2.2.2.2.1))]), (Blk.cells [(V.bool true)]), Blk.dfr, (Blk.loop .ready none ⟨39, [37], (subC [1, 0, 1, 1, 1, 0, 1, 0, 0, 1, 1, 0, 0, 1, 1, 1, 1, 1, 0, 0] (bodyOf Tryd.f39)), (subC [1, 0, 1, 1, 1, 0, 1, 0, 0, 1, 1, 0, 0, 1, 1, 1, 1, 1, 0, 1] (bodyOf Tryd.f39)), [(7, (V.ptr 3 0)), (8, (V.ptr 4 0)), (9, (V.ptr 5 0))], 10⟩), (Blk.cells [(V.yld 11)]), (Blk.cells [(V.int .u64 (z13.2.2.2.1))]), (Blk.cells [(V.bool true)]), Blk.dfr, (Blk.loop .busy none ⟨106, [11], (subC [1, 1, 0, 0] (bodyOf Tryd.f106)), (subC [1, 1, 0, 1] (bodyOf Tryd.f106)), [(1, (V.ptr 7 0)), (2, (V.ptr 9 0)), (3, (V.ptr 8 0)), (4, (V.ptr 12 0))], 15⟩), (Blk.row (.int .i64) (z13.1) 3 (z13q.1)), (Blk.cells [(V.int .i64 (z13.2.2.2.2.2.2.2.2.2.1))]), (Blk.cells [(V.int .u64 (z13.2.2.1))]), (Blk.cells [(V.bool true)]), (Blk.loop .ready none ⟨106, [16], (subC [1, 1, 0, 1, 0, 1, 0, 0] (bodyOf Tryd.f106)), (subC [1, 1, 0, 1, 0, 1, 0, 1] (bodyOf Tryd.f106)), [(3, (V.ptr 8 0)), (4, (V.ptr 12 0)), (5, (V.ptr 18 0))], 15⟩), (Blk.row (.int .i64) (z13.2.1) 3 (z13q.2))], []⟩) y14
def next_Last_l0 : Nat → next_Last_l0_Z → next_Last_l0_Y → Prop
  | 0, _, _ => False
  | k + 1, z13, y14_ => (br (decide ((z13.2.2.2.2.2.2.2.2.2.2.2) < (z13.2.2.2.2.2.2.2.2.2.2.1))) (req ((decide (0 ≤ (IntKind.wrap .i64 ((IntKind.wrap .i64 ((((List.length (z13.2.1)) : Nat) : Int) - 1)) - (z13.2.2.2.2.2.2.2.2.2.2.2))))) && (decide ((IntKind.wrap .i64 ((IntKind.wrap .i64 ((((List.length (z13.2.1)) : Nat) : Int) - 1)) - (z13.2.2.2.2.2.2.2.2.2.2.2))) < (((List.length (z13.2.1)) : Nat) : Int)))) (req (Nat.blt (Int.toNat (IntKind.wrap .i64 ((IntKind.wrap .i64 ((((List.length (z13.2.1)) : Nat) : Int) - 1)) - (z13.2.2.2.2.2.2.2.2.2.2.2)))) (List.length (z13.2.1))) (br (decide ((IntKind.wrap .i64 ((IntKind.wrap .i64 ((IntKind.wrap .i64 ((z13.2.2.2.2.2.2.2.2.1) * 86400)) + (IntKind.wrap .i64 ((z13.2.2.2.2.2.2.2.2.2.1) * 3600)))) + (IntKind.wrap .i64 ((List.getD (z13.2.1) (Int.toNat (IntKind.wrap .i64 ((IntKind.wrap .i64 ((((List.length (z13.2.1)) : Nat) : Int) - 1)) - (z13.2.2.2.2.2.2.2.2.2.2.2)))) 0) * 60)))) ≤ (z13.2.2.2.2.2.2.2.1))) ((Sum.inl (IntKind.wrap .i64 ((IntKind.wrap .i64 ((IntKind.wrap .i64 ((z13.2.2.2.2.2.2.2.2.1) * 86400)) + (IntKind.wrap .i64 ((z13.2.2.2.2.2.2.2.2.2.1) * 3600)))) + (IntKind.wrap .i64 ((List.getD (z13.2.1) (Int.toNat (IntKind.wrap .i64 ((IntKind.wrap .i64 ((((List.length (z13.2.1)) : Nat) : Int) - 1)) - (z13.2.2.2.2.2.2.2.2.2.2.2)))) 0) * 60))))) = y14_) (next_Last_l0 k ((z13.1), (z13.2.1), (z13.2.2.1), (z13.2.2.2.1), (z13.2.2.2.2.1), (z13.2.2.2.2.2.1), (z13.2.2.2.2.2.2.1), (z13.2.2.2.2.2.2.2.1), (z13.2.2.2.2.2.2.2.2.1), (z13.2.2.2.2.2.2.2.2.2.1), (z13.2.2.2.2.2.2.2.2.2.2.1), (IntKind.wrap .i64 ((z13.2.2.2.2.2.2.2.2.2.2.2) + 1))) y14_)))) ((Sum.inr ()) = y14_))
def next_Last_l0_L (z : next_Last_l0_Z) (y : next_Last_l0_Y) : Prop := ∃ k, next_Last_l0 k z y
noncomputable def next_Last_l0_lp : Lp := .auto none next_Last_l0_body (loopG 23 next_Last_l0_st (fun z y => ∃ k, next_Last_l0 k z y) next_Last_l0_K)
noncomputable def next_Last_l1_body : Code := subC [1, 1, 0, 0] (bodyOf Tryd.f127)
abbrev next_Last_l1_Z : Type := List Int × Int × Int × Int × Int × Int × Int × Int × Int × Int
abbrev next_Last_l1_Y : Type := (Int) ⊕ (Unit)
abbrev next_Last_l1_C : Type := Unit
abbrev next_Last_l1_Q : Type := Nat
noncomputable def next_Last_l1_st (z9 : next_Last_l1_Z) (z9q : next_Last_l1_Q) (z9c : next_Last_l1_C) : S := ⟨[(0, (V.yld 16)), (2, (V.ptr 14 0)), (4, (V.row 17 1 (List.length (z9.1)) z9q)), (9, (V.int .i64 (z9.2.2.2.2.2.2.2.2.1))), (10, (V.int .i64 (z9.2.2.2.2.2.2.2.2.2)))], [(Blk.cells [(V.int .u64 (z9.2.1)), (V.int .u64 (z9.2.2.1)), (V.int .u64 (z9.2.2.2.1)), (V.int .u64 (z9.2.2.2.2.1)), (V.int .u64 (z9.2.2.2.2.2.1))]), (Blk.cells [(V.int .i64 (z9.2.2.2.2.2.2.1))]), (Blk.cells [(V.int .u64 (z9.2.1)), (V.int .u64 (z9.2.2.1)), (V.int .u64 (z9.2.2.2.1)), (V.int .u64 (z9.2.2.2.2.1)), (V.int .u64 (z9.2.2.2.2.2.1))]), (Blk.cells [(V.fn 42 [] [(V.ptr 1 0)])]), (Blk.cells [(V.int .i64 0)]), (Blk.cells [(V.bool false)]), (Blk.cells [(V.int .u64 (z9.2.1)), (V.int .u64 (z9.2.2.1)), (V.int .u64 (z9.2.2.2.1)), (V.int .u64 (z9.2.2.2.2.1)), (V.int .u64 (z9.2.2.2.2.2.1))]), (Blk.cells [(V.int .u64 (z9.2.1)), (V.int .u64 (z9.2.2.1)), (V.int .u64 (z9.2.2.2.1)), (V.int .u64 (z9.2.2.2.2.1)), (V.int .u64 (z9.2.2.2.2.2.1))]), (Blk.cells [(V.int .i64 (z9.2.2.2.2.2.2.2.1))]), (Blk.cells [(V.bool true)]), Blk.dfr, (Blk.loop .ready none ⟨39, [37], (subC [1, 0, 1, 1, 1, 0, 1, 0, 0, 1, 1, 0, 0, 1, 1, 1, 1, 1, 0, 0] (bodyOf Tryd.f39)), (subC [1, 0, 1, 1, 1, 0, 1, 0, 0, 1, 1, 0, 0, 1, 1, 1, 1, 1, 0, 1] (bodyOf Tryd.f39)), [(7, (V.ptr 3 0)), (8, (V.ptr 4 0)), (9, (V.ptr 5 0))], 10⟩), (Blk.cells [(V.yld 11)]), (Blk.cells [(V.int .u64 (z9.2.2.1))]), (Blk.cells [(V.bool true)]), Blk.dfr, (Blk.loop .ready none ⟨106, [11], (subC [1, 1, 0, 0] (bodyOf Tryd.f106)), (subC [1, 1, 0, 1] (bodyOf Tryd.f106)), [(1, (V.ptr 7 0)), (2, (V.ptr 9 0)), (3, (V.ptr 8 0)), (4, (V.ptr 12 0))], 15⟩), (Blk.row (.int .i64) (z9.1) 3 z9q)], []⟩
def next_Last_l1_K (K : Ret → S → Prop) (z9 : next_Last_l1_Z) (z9q : next_Last_l1_Q) (y10 : next_Last_l1_Y) : Prop := sume (fun y10 => K .ret ⟨[], [(Blk.cells [(V.int .u64 (z9.2.1)), (V.int .u64 (z9.2.2.1)), (V.int .u64 (z9.2.2.2.1)), (V.int .u64 (z9.2.2.2.2.1)), (V.int .u64 (z9.2.2.2.2.2.1))]), (Blk.cells [(V.int .i64 (z9.2.2.2.2.2.2.1))]), (Blk.cells [(V.int .u64 (z9.2.1)), (V.int .u64 (z9.2.2.1)), (V.int .u64 (z9.2.2.2.1)), (V.int .u64 (z9.2.2.2.2.1)), (V.int .u64 (z9.2.2.2.2.2.1))]), (Blk.cells [(V.fn 42 [] [(V.ptr 1 0)])]), (Blk.cells [(V.int .i64 y10)]), (Blk.cells [(V.bool true)]), (Blk.cells [(V.int .u64 (z9.2.1)), (V.int .u64 (z9.2.2.1)), (V.int .u64 (z9.2.2.2.1)), (V.int .u64 (z9.2.2.2.2.1)), (V.int .u64 (z9.2.2.2.2.2.1))]), (Blk.cells [(V.int .u64 (z9.2.1)), (V.int .u64 (z9.2.2.1)), (V.int .u64 (z9.2.2.2.1)), (V.int .u64 (z9.2.2.2.2.1)), (V.int .u64 (z9.2.2.2.2.2.1))]), (Blk.cells [(V.int .i64 (z9.2.2.2.2.2.2.2.1))]), (Blk.cells [(V.bool true)]), Blk.dfr, (Blk.loop .done (some (.exit 0)) ⟨39, [37], (subC [1, 0, 1, 1, 1, 0, 1, 0, 0, 1, 1, 0, 0, 1, 1, 1, 1, 1, 0, 0] (bodyOf Tryd.f39)), (subC [1, 0, 1, 1, 1, 0, 1, 0, 0, 1, 1, 0, 0, 1, 1, 1, 1, 1, 0, 1] (bodyOf Tryd.f39)), [(7, (V.ptr 3 0)), (8, (V.ptr 4 0)), (9, (V.ptr 5 0))], 10⟩), (Blk.cells [(V.yld 11)]), (Blk.cells [(V.int .u64 (z9.2.2.1))]), (Blk.cells [(V.bool true)]), Blk.dfr, (Blk.loop .done (some .ret) ⟨106, [11], (subC [1, 1, 0, 0] (bodyOf Tryd.f106)), (subC [1, 1, 0, 1] (bodyOf Tryd.f106)), [(1, (V.ptr 7 0)), (2, (V.ptr 9 0)), (3, (V.ptr 8 0)), (4, (V.ptr 12 0))], 15⟩), (Blk.row (.int .i64) (z9.1) 3 z9q)], []⟩) (fun y10 => K (.exit 0) ⟨[], [(Blk.cells [(V.int .u64 (z9.2.1)), (V.int .u64 (z9.2.2.1)), (V.int .u64 (z9.2.2.2.1)), (V.int .u64 (z9.2.2.2.2.1)), (V.int .u64 (z9.2.2.2.2.2.1))]), (Blk.cells [(V.int .i64 (z9.2.2.2.2.2.2.1))]), (Blk.cells [(V.int .u64 (z9.2.1)), (V.int .u64 (z9.2.2.1)), (V.int .u64 (z9.2.2.2.1)), (V.int .u64 (z9.2.2.2.2.1)), (V.int .u64 (z9.2.2.2.2.2.1))]), (Blk.cells [(V.fn 42 [] [(V.ptr 1 0)])]), (Blk.cells [(V.int .i64 0)]), (Blk.cells [(V.bool false)]), (Blk.cells [(V.int .u64 (z9.2.1)), (V.int .u64 (z9.2.2.1)), (V.int .u64 (z9.2.2.2.1)), (V.int .u64 (z9.2.2.2.2.1)), (V.int .u64 (z9.2.2.2.2.2.1))]), (Blk.cells [(V.int .u64 (z9.2.1)), (V.int .u64 (z9.2.2.1)), (V.int .u64 (z9.2.2.2.1)), (V.int .u64 (z9.2.2.2.2.1)), (V.int .u64 (z9.2.2.2.2.2.1))]), (Blk.cells [(V.int .i64 (z9.2.2.2.2.2.2.2.1))]), (Blk.cells [(V.bool true)]), Blk.dfr, (Blk.loop .ready none ⟨39, [37], (subC [1, 0, 1, 1, 1, 0, 1, 0, 0, 1, 1, 0, 0, 1, 1, 1, 1, 1, 0, 0] (bodyOf Tryd.f39)), (subC [1, 0, 1, 1, 1, 0, 1, 0, 0, 1, 1, 0, 0, 1, 1, 1, 1, 1, 0, 1] (bodyOf Tryd.f39)), [(7, (V.ptr 3 0)), (8, (V.ptr 4 0)), (9, (V.ptr 5 0))], 10⟩), (Blk.cells [(V.yld 11)]), (Blk.cells [(V.int .u64 (z9.2.2.1))]), (Blk.cells [(V.bool true)]), Blk.dfr, (Blk.loop .ready none ⟨106, [11], (subC [1, 1, 0, 0] (bodyOf Tryd.f106)), (subC [1, 1, 0, 1] (bodyOf Tryd.f106)), [(1, (V.ptr 7 0)), (2, (V.ptr 9 0)), (3, (V.ptr 8 0)), (4, (V.ptr 12 0))], 15⟩), (Blk.row (.int .i64) (z9.1) 3 z9q)], []⟩) y10
def next_Last_l1 : Nat → next_Last_l1_Z → next_Last_l1_Y → Prop
  | 0, _, _ => False
  | k + 1, z9, y10_ => (br (decide ((z9.2.2.2.2.2.2.2.2.2) < (z9.2.2.2.2.2.2.2.2.1))) (req ((decide (0 ≤ (IntKind.wrap .i64 ((IntKind.wrap .i64 ((((List.length (z9.1)) : Nat) : Int) - 1)) - (z9.2.2.2.2.2.2.2.2.2))))) && (decide ((IntKind.wrap .i64 ((IntKind.wrap .i64 ((((List.length (z9.1)) : Nat) : Int) - 1)) - (z9.2.2.2.2.2.2.2.2.2))) < (((List.length (z9.1)) : Nat) : Int)))) (req (Nat.blt (Int.toNat (IntKind.wrap .i64 ((IntKind.wrap .i64 ((((List.length (z9.1)) : Nat) : Int) - 1)) - (z9.2.2.2.2.2.2.2.2.2)))) (List.length (z9.1))) (∃ y11 : List Int, (mask_All_R (z9.2.1) y11) ∧ (∃ y16 : next_Last_l0_Y, next_Last_l0_L ((z9.1), y11, (z9.2.1), (z9.2.2.1), (z9.2.2.2.1), (z9.2.2.2.2.1), (z9.2.2.2.2.2.1), (z9.2.2.2.2.2.2.1), (z9.2.2.2.2.2.2.2.1), (List.getD (z9.1) (Int.toNat (IntKind.wrap .i64 ((IntKind.wrap .i64 ((((List.length (z9.1)) : Nat) : Int) - 1)) - (z9.2.2.2.2.2.2.2.2.2)))) 0), (((List.length y11) : Nat) : Int), 0) y16 ∧ sume (fun y16 => ((Sum.inl y16) = y10_)) (fun y16 => (next_Last_l1 k ((z9.1), (z9.2.1), (z9.2.2.1), (z9.2.2.2.1), (z9.2.2.2.2.1), (z9.2.2.2.2.2.1), (z9.2.2.2.2.2.2.1), (z9.2.2.2.2.2.2.2.1), (z9.2.2.2.2.2.2.2.2.1), (IntKind.wrap .i64 ((z9.2.2.2.2.2.2.2.2.2) + 1))) y10_)) y16)))) ((Sum.inr ()) = y10_))
def next_Last_l1_L (z : next_Last_l1_Z) (y : next_Last_l1_Y) : Prop := ∃ k, next_Last_l1 k z y
noncomputable def next_Last_l1_lp : Lp := .auto none next_Last_l1_body (loopG 18 next_Last_l1_st (fun z y => ∃ k, next_Last_l1 k z y) next_Last_l1_K)
noncomputable def next_Last_l2_body : Code := subC [1, 0, 1, 1, 1, 0, 1, 0, 0] (bodyOf Tryd.f39)
abbrev next_Last_l2_Z : Type := Int × Int × Int × Int × Int × Int × Int × Int
abbrev next_Last_l2_Y : Type := Int × Bool
abbrev next_Last_l2_C : Type := Unit
abbrev next_Last_l2_Q : Type := Unit
noncomputable def next_Last_l2_st (z3 : next_Last_l2_Z) (z3q : next_Last_l2_Q) (z3c : next_Last_l2_C) : S := ⟨[(1, (V.int .i64 (z3.2.2.2.2.2.2.1))), (2, (V.bool true)), (4, (V.ptr 2 0)), (7, (V.ptr 3 0)), (8, (V.ptr 4 0)), (9, (V.ptr 5 0)), (10, (V.fn 105 [] [(V.ptr 6 0)])), (19, (V.int .i64 (z3.2.2.2.2.2.2.2)))], [(Blk.cells [(V.int .u64 (z3.1)), (V.int .u64 (z3.2.1)), (V.int .u64 (z3.2.2.1)), (V.int .u64 (z3.2.2.2.1)), (V.int .u64 (z3.2.2.2.2.1))]), (Blk.cells [(V.int .i64 (z3.2.2.2.2.2.1))]), (Blk.cells [(V.int .u64 (z3.1)), (V.int .u64 (z3.2.1)), (V.int .u64 (z3.2.2.1)), (V.int .u64 (z3.2.2.2.1)), (V.int .u64 (z3.2.2.2.2.1))]), (Blk.cells [(V.fn 42 [] [(V.ptr 1 0)])]), (Blk.cells [(V.int .i64 0)]), (Blk.cells [(V.bool false)]), (Blk.cells [(V.int .u64 (z3.1)), (V.int .u64 (z3.2.1)), (V.int .u64 (z3.2.2.1)), (V.int .u64 (z3.2.2.2.1)), (V.int .u64 (z3.2.2.2.2.1))])], []⟩
def next_Last_l2_K (K : Ret → S → Prop) (z3 : next_Last_l2_Z) (z3q : next_Last_l2_Q) (y4 : next_Last_l2_Y) : Prop := K (.exit 0) ⟨[(8, (V.ptr 4 0)), (9, (V.ptr 5 0))], [(Blk.cells [(V.int .u64 (z3.1)), (V.int .u64 (z3.2.1)), (V.int .u64 (z3.2.2.1)), (V.int .u64 (z3.2.2.2.1)), (V.int .u64 (z3.2.2.2.2.1))]), (Blk.cells [(V.int .i64 (z3.2.2.2.2.2.1))]), (Blk.cells [(V.int .u64 (z3.1)), (V.int .u64 (z3.2.1)), (V.int .u64 (z3.2.2.1)), (V.int .u64 (z3.2.2.2.1)), (V.int .u64 (z3.2.2.2.2.1))]), (Blk.cells [(V.fn 42 [] [(V.ptr 1 0)])]), (Blk.cells [(V.int .i64 (y4.1))]), (Blk.cells [(V.bool (y4.2))]), (Blk.cells [(V.int .u64 (z3.1)), (V.int .u64 (z3.2.1)), (V.int .u64 (z3.2.2.1)), (V.int .u64 (z3.2.2.2.1)), (V.int .u64 (z3.2.2.2.2.1))]), Blk.dead, Blk.dead, Blk.dead, Blk.dead, Blk.dead], []⟩
def next_Last_l2 : Nat → next_Last_l2_Z → next_Last_l2_Y → Prop
  | 0, _, _ => False
  | k + 1, z3, y4_ => (br (decide ((z3.2.2.2.2.2.2.2) < 2923)) (∃ y5 : (Int × Int × Int) × Int, (days_At_R (IntKind.wrap .i64 ((z3.2.2.2.2.2.2.1) - (z3.2.2.2.2.2.2.2))) y5) ∧ (br ((y5.2) == 0) (∃ y6 : Bool, (cron_Day_R (z3.1) (z3.2.1) (z3.2.2.1) (z3.2.2.2.1) (z3.2.2.2.2.1) ((y5.1).1) (((y5.1).2).1) (((y5.1).2).2) y6) ∧ (br (!y6) (next_Last_l2 k ((z3.1), (z3.2.1), (z3.2.2.1), (z3.2.2.2.1), (z3.2.2.2.2.1), (z3.2.2.2.2.2.1), (z3.2.2.2.2.2.2.1), (IntKind.wrap .i64 ((z3.2.2.2.2.2.2.2) + 1))) y4_) (∃ y7 : List Int, (mask_All_R (z3.2.1) y7) ∧ (∃ y18 : next_Last_l1_Y, next_Last_l1_L (y7, (z3.1), (z3.2.1), (z3.2.2.1), (z3.2.2.2.1), (z3.2.2.2.2.1), (z3.2.2.2.2.2.1), (IntKind.wrap .i64 ((z3.2.2.2.2.2.2.1) - (z3.2.2.2.2.2.2.2))), (((List.length y7) : Nat) : Int), 0) y18 ∧ sume (fun y18 => ((y18, true) = y4_)) (fun y18 => (next_Last_l2 k ((z3.1), (z3.2.1), (z3.2.2.1), (z3.2.2.2.1), (z3.2.2.2.2.1), (z3.2.2.2.2.2.1), (z3.2.2.2.2.2.2.1), (IntKind.wrap .i64 ((z3.2.2.2.2.2.2.2) + 1))) y4_)) y18)))) (next_Last_l2 k ((z3.1), (z3.2.1), (z3.2.2.1), (z3.2.2.2.1), (z3.2.2.2.2.1), (z3.2.2.2.2.2.1), (z3.2.2.2.2.2.2.1), (IntKind.wrap .i64 ((z3.2.2.2.2.2.2.2) + 1))) y4_))) ((0, false) = y4_))
def next_Last_l2_L (z : next_Last_l2_Z) (y : next_Last_l2_Y) : Prop := ∃ k, next_Last_l2 k z y
noncomputable def next_Last_l2_lp : Lp := .auto none next_Last_l2_body (loopG 7 next_Last_l2_st (fun z y => ∃ k, next_Last_l2 k z y) next_Last_l2_K)
noncomputable def next_Last_lp : Nat → FuncId → Nat → Nat → Lp := lpTab [(127, 2, 23, 3, next_Last_l0_lp), (127, 2, 18, 5, next_Last_l1_lp), (39, 5, 7, 7, next_Last_l2_lp)]
theorem next_Last_l0_round (n : Nat) (z13 : next_Last_l0_Z) (z13q : next_Last_l0_Q) (z13c : next_Last_l0_C) (K : Ret → S → Prop) (next : S → Prop) : acode next_Last_cx 127 (acall next_Last_cx okT next_Last_lp (n + 3)) kept (next_Last_lp (n + 3) 127) none next_Last_l0_body (iterK (wkK 23 K) next) (next_Last_l0_st z13 z13q z13c) =
    (req true (br (decide ((z13.2.2.2.2.2.2.2.2.2.2.2) < (z13.2.2.2.2.2.2.2.2.2.2.1))) (req true (req true (req true (req true (req true (req true (req true (req true (req true (req true (req true (req true (req ((decide (0 ≤ (IntKind.wrap .i64 ((IntKind.wrap .i64 ((((List.length (z13.2.1)) : Nat) : Int) - 1)) - (z13.2.2.2.2.2.2.2.2.2.2.2))))) && (decide ((IntKind.wrap .i64 ((IntKind.wrap .i64 ((((List.length (z13.2.1)) : Nat) : Int) - 1)) - (z13.2.2.2.2.2.2.2.2.2.2.2))) < (((List.length (z13.2.1)) : Nat) : Int)))) (req (Nat.blt (Int.toNat (IntKind.wrap .i64 ((IntKind.wrap .i64 ((((List.length (z13.2.1)) : Nat) : Int) - 1)) - (z13.2.2.2.2.2.2.2.2.2.2.2)))) (List.length (z13.2.1))) (req true (req true (req true (req true (req true (req true (req true (req true (req true (req true (req true (req true (req true (req true (req true (req true (req true (req true (req true (req true (br (decide ((IntKind.wrap .i64 ((IntKind.wrap .i64 ((IntKind.wrap .i64 ((z13.2.2.2.2.2.2.2.2.1) * 86400)) + (IntKind.wrap .i64 ((z13.2.2.2.2.2.2.2.2.2.1) * 3600)))) + (IntKind.wrap .i64 ((List.getD (z13.2.1) (Int.toNat (IntKind.wrap .i64 ((IntKind.wrap .i64 ((((List.length (z13.2.1)) : Nat) : Int) - 1)) - (z13.2.2.2.2.2.2.2.2.2.2.2)))) 0) * 60)))) ≤ (z13.2.2.2.2.2.2.2.1))) (req true (req true (req true (wkK 23 K .ret ⟨[(0, (V.yld 21)), (2, (V.ptr 20 0)), (4, (V.row 22 1 (List.length (z13.2.1)) (z13q.2))), (9, (V.int .i64 (z13.2.2.2.2.2.2.2.2.2.2.1))), (10, (V.int .i64 (z13.2.2.2.2.2.2.2.2.2.2.2))), (11, (V.bool (decide ((z13.2.2.2.2.2.2.2.2.2.2.2) < (z13.2.2.2.2.2.2.2.2.2.2.1))))), (12, (V.int .i64 (z13.2.2.2.2.2.2.2.2.2.2.2))), (5, (V.int .i64 (IntKind.wrap .i64 ((IntKind.wrap .i64 ((((List.length (z13.2.1)) : Nat) : Int) - 1)) - (z13.2.2.2.2.2.2.2.2.2.2.2))))), (13, (V.bool true)), (14, (V.row 22 1 (List.length (z13.2.1)) (z13q.2))), (15, (V.int .i64 (((List.length (z13.2.1)) : Nat) : Int))), (16, (V.int .i64 (IntKind.wrap .i64 ((((List.length (z13.2.1)) : Nat) : Int) - 1)))), (17, (V.int .i64 (z13.2.2.2.2.2.2.2.2.2.2.2))), (18, (V.int .i64 (IntKind.wrap .i64 ((IntKind.wrap .i64 ((((List.length (z13.2.1)) : Nat) : Int) - 1)) - (z13.2.2.2.2.2.2.2.2.2.2.2))))), (19, (V.yld 21)), (20, (V.row 22 1 (List.length (z13.2.1)) (z13q.2))), (21, (V.int .i64 (IntKind.wrap .i64 ((IntKind.wrap .i64 ((((List.length (z13.2.1)) : Nat) : Int) - 1)) - (z13.2.2.2.2.2.2.2.2.2.2.2))))), (22, (V.rp 22 1 (Int.toNat (IntKind.wrap .i64 ((IntKind.wrap .i64 ((((List.length (z13.2.1)) : Nat) : Int) - 1)) - (z13.2.2.2.2.2.2.2.2.2.2.2)))) 0)), (23, (V.int .i64 (List.getD (z13.2.1) (Int.toNat (IntKind.wrap .i64 ((IntKind.wrap .i64 ((((List.length (z13.2.1)) : Nat) : Int) - 1)) - (z13.2.2.2.2.2.2.2.2.2.2.2)))) 0))), (24, (V.bool false)), (25, (V.bool true))], [(Blk.cells [(V.int .u64 (z13.2.2.1)), (V.int .u64 (z13.2.2.2.1)), (V.int .u64 (z13.2.2.2.2.1)), (V.int .u64 (z13.2.2.2.2.2.1)), (V.int .u64 (z13.2.2.2.2.2.2.1))]), (Blk.cells [(V.int .i64 (z13.2.2.2.2.2.2.2.1))]), (Blk.cells [(V.int .u64 (z13.2.2.1)), (V.int .u64 (z13.2.2.2.1)), (V.int .u64 (z13.2.2.2.2.1)), (V.int .u64 (z13.2.2.2.2.2.1)), (V.int .u64 (z13.2.2.2.2.2.2.1))]), (Blk.cells [(V.fn 42 [] [(V.ptr 1 0)])]), (Blk.cells [(V.int .i64 (IntKind.wrap .i64 ((IntKind.wrap .i64 ((IntKind.wrap .i64 ((z13.2.2.2.2.2.2.2.2.1) * 86400)) + (IntKind.wrap .i64 ((z13.2.2.2.2.2.2.2.2.2.1) * 3600)))) + (IntKind.wrap .i64 ((List.getD (z13.2.1) (Int.toNat (IntKind.wrap .i64 ((IntKind.wrap .i64 ((((List.length (z13.2.1)) : Nat) : Int) - 1)) - (z13.2.2.2.2.2.2.2.2.2.2.2)))) 0) * 60)))))]), (Blk.cells [(V.bool true)]), (Blk.cells [(V.int .u64 (z13.2.2.1)), (V.int .u64 (z13.2.2.2.1)), (V.int .u64 (z13.2.2.2.2.1)), (V.int .u64 (z13.2.2.2.2.2.1)), (V.int .u64 (z13.2.2.2.2.2.2.1))]), (Blk.cells [(V.int .u64 (z13.2.2.1)), (V.int .u64 (z13.2.2.2.1)), (V.int .u64 (z13.2.2.2.2.1)), (V.int .u64 (z13.2.2.2.2.2.1)), (V.int .u64 (z13.2.2.2.2.2.2.1))]), (Blk.cells [(V.int .i64 (z13.2.2.2.2.2.2.2.2.1))]), (Blk.cells [(V.bool true)]), Blk.dfr, (Blk.loop .done (some (.exit 0)) ⟨39, [37], (subC [1, 0, 1, 1, 1, 0, 1, 0, 0, 1, 1, 0, 0, 1, 1, 1, 1, 1, 0, 0] (bodyOf Tryd.f39)), (subC [1, 0, 1, 1, 1, 0, 1, 0, 0, 1, 1, 0, 0, 1, 1, 1, 1, 1, 0, 1] (bodyOf Tryd.f39)), [(7, (V.ptr 3 0)), (8, (V.ptr 4 0)), (9, (V.ptr 5 0))], 10⟩), (Blk.cells [(V.yld 11)]), (Blk.cells [(V.int .u64 (z13.2.2.2.1))]), (Blk.cells [(V.bool true)]), Blk.dfr, (Blk.loop .busy none ⟨106, [11], (subC [1, 1, 0, 0] (bodyOf Tryd.f106)), (subC [1, 1, 0, 1] (bodyOf Tryd.f106)), [(1, (V.ptr 7 0)), (2, (V.ptr 9 0)), (3, (V.ptr 8 0)), (4, (V.ptr 12 0))], 15⟩), (Blk.row (.int .i64) (z13.1) 3 (z13q.1)), (Blk.cells [(V.int .i64 (z13.2.2.2.2.2.2.2.2.2.1))]), (Blk.cells [(V.int .u64 (z13.2.2.1))]), (Blk.cells [(V.bool true)]), (Blk.loop .done (some .ret) ⟨106, [16], (subC [1, 1, 0, 1, 0, 1, 0, 0] (bodyOf Tryd.f106)), (subC [1, 1, 0, 1, 0, 1, 0, 1] (bodyOf Tryd.f106)), [(3, (V.ptr 8 0)), (4, (V.ptr 12 0)), (5, (V.ptr 18 0))], 15⟩), (Blk.row (.int .i64) (z13.2.1) 3 (z13q.2))], []⟩)))) (req true (req true (req true (req true (next ⟨[(0, (V.yld 21)), (2, (V.ptr 20 0)), (4, (V.row 22 1 (List.length (z13.2.1)) (z13q.2))), (9, (V.int .i64 (z13.2.2.2.2.2.2.2.2.2.2.1))), (10, (V.int .i64 (IntKind.wrap .i64 ((z13.2.2.2.2.2.2.2.2.2.2.2) + 1)))), (11, (V.bool (decide ((z13.2.2.2.2.2.2.2.2.2.2.2) < (z13.2.2.2.2.2.2.2.2.2.2.1))))), (12, (V.int .i64 (z13.2.2.2.2.2.2.2.2.2.2.2))), (5, (V.int .i64 (IntKind.wrap .i64 ((IntKind.wrap .i64 ((((List.length (z13.2.1)) : Nat) : Int) - 1)) - (z13.2.2.2.2.2.2.2.2.2.2.2))))), (13, (V.bool true)), (14, (V.row 22 1 (List.length (z13.2.1)) (z13q.2))), (15, (V.int .i64 (((List.length (z13.2.1)) : Nat) : Int))), (16, (V.int .i64 (IntKind.wrap .i64 ((((List.length (z13.2.1)) : Nat) : Int) - 1)))), (17, (V.int .i64 (z13.2.2.2.2.2.2.2.2.2.2.2))), (18, (V.int .i64 (IntKind.wrap .i64 ((IntKind.wrap .i64 ((((List.length (z13.2.1)) : Nat) : Int) - 1)) - (z13.2.2.2.2.2.2.2.2.2.2.2))))), (19, (V.yld 21)), (20, (V.row 22 1 (List.length (z13.2.1)) (z13q.2))), (21, (V.int .i64 (IntKind.wrap .i64 ((IntKind.wrap .i64 ((((List.length (z13.2.1)) : Nat) : Int) - 1)) - (z13.2.2.2.2.2.2.2.2.2.2.2))))), (22, (V.rp 22 1 (Int.toNat (IntKind.wrap .i64 ((IntKind.wrap .i64 ((((List.length (z13.2.1)) : Nat) : Int) - 1)) - (z13.2.2.2.2.2.2.2.2.2.2.2)))) 0)), (23, (V.int .i64 (List.getD (z13.2.1) (Int.toNat (IntKind.wrap .i64 ((IntKind.wrap .i64 ((((List.length (z13.2.1)) : Nat) : Int) - 1)) - (z13.2.2.2.2.2.2.2.2.2.2.2)))) 0))), (24, (V.bool true)), (25, (V.bool false)), (26, (V.int .i64 (IntKind.wrap .i64 ((z13.2.2.2.2.2.2.2.2.2.2.2) + 1))))], [(Blk.cells [(V.int .u64 (z13.2.2.1)), (V.int .u64 (z13.2.2.2.1)), (V.int .u64 (z13.2.2.2.2.1)), (V.int .u64 (z13.2.2.2.2.2.1)), (V.int .u64 (z13.2.2.2.2.2.2.1))]), (Blk.cells [(V.int .i64 (z13.2.2.2.2.2.2.2.1))]), (Blk.cells [(V.int .u64 (z13.2.2.1)), (V.int .u64 (z13.2.2.2.1)), (V.int .u64 (z13.2.2.2.2.1)), (V.int .u64 (z13.2.2.2.2.2.1)), (V.int .u64 (z13.2.2.2.2.2.2.1))]), (Blk.cells [(V.fn 42 [] [(V.ptr 1 0)])]), (Blk.cells [(V.int .i64 0)]), (Blk.cells [(V.bool false)]), (Blk.cells [(V.int .u64 (z13.2.2.1)), (V.int .u64 (z13.2.2.2.1)), (V.int .u64 (z13.2.2.2.2.1)), (V.int .u64 (z13.2.2.2.2.2.1)), (V.int .u64 (z13.2.2.2.2.2.2.1))]), (Blk.cells [(V.int .u64 (z13.2.2.1)), (V.int .u64 (z13.2.2.2.1)), (V.int .u64 (z13.2.2.2.2.1)), (V.int .u64 (z13.2.2.2.2.2.1)), (V.int .u64 (z13.2.2.2.2.2.2.1))]), (Blk.cells [(V.int .i64 (z13.2.2.2.2.2.2.2.2.1))]), (Blk.cells [(V.bool true)]), Blk.dfr, (Blk.loop .ready none ⟨39, [37], (subC [1, 0, 1, 1, 1, 0, 1, 0, 0, 1, 1, 0, 0, 1, 1, 1, 1, 1, 0, 0] (bodyOf Tryd.f39)), (subC [1, 0, 1, 1, 1, 0, 1, 0, 0, 1, 1, 0, 0, 1, 1, 1, 1, 1, 0, 1] (bodyOf Tryd.f39)), [(7, (V.ptr 3 0)), (8, (V.ptr 4 0)), (9, (V.ptr 5 0))], 10⟩), (Blk.cells [(V.yld 11)]), (Blk.cells [(V.int .u64 (z13.2.2.2.1))]), (Blk.cells [(V.bool true)]), Blk.dfr, (Blk.loop .busy none ⟨106, [11], (subC [1, 1, 0, 0] (bodyOf Tryd.f106)), (subC [1, 1, 0, 1] (bodyOf Tryd.f106)), [(1, (V.ptr 7 0)), (2, (V.ptr 9 0)), (3, (V.ptr 8 0)), (4, (V.ptr 12 0))], 15⟩), (Blk.row (.int .i64) (z13.1) 3 (z13q.1)), (Blk.cells [(V.int .i64 (z13.2.2.2.2.2.2.2.2.2.1))]), (Blk.cells [(V.int .u64 (z13.2.2.1))]), (Blk.cells [(V.bool true)]), (Blk.loop .ready none ⟨106, [16], (subC [1, 1, 0, 1, 0, 1, 0, 0] (bodyOf Tryd.f106)), (subC [1, 1, 0, 1, 0, 1, 0, 1] (bodyOf Tryd.f106)), [(3, (V.ptr 8 0)), (4, (V.ptr 12 0)), (5, (V.ptr 18 0))], 15⟩), (Blk.row (.int .i64) (z13.2.1) 3 (z13q.2))], []⟩)))))))))))))))))))))))))))))))))))))))) (wkK 23 K (.exit 0) ⟨[(0, (V.yld 21)), (2, (V.ptr 20 0)), (4, (V.row 22 1 (List.length (z13.2.1)) (z13q.2))), (9, (V.int .i64 (z13.2.2.2.2.2.2.2.2.2.2.1))), (10, (V.int .i64 (z13.2.2.2.2.2.2.2.2.2.2.2))), (11, (V.bool (decide ((z13.2.2.2.2.2.2.2.2.2.2.2) < (z13.2.2.2.2.2.2.2.2.2.2.1)))))], [(Blk.cells [(V.int .u64 (z13.2.2.1)), (V.int .u64 (z13.2.2.2.1)), (V.int .u64 (z13.2.2.2.2.1)), (V.int .u64 (z13.2.2.2.2.2.1)), (V.int .u64 (z13.2.2.2.2.2.2.1))]), (Blk.cells [(V.int .i64 (z13.2.2.2.2.2.2.2.1))]), (Blk.cells [(V.int .u64 (z13.2.2.1)), (V.int .u64 (z13.2.2.2.1)), (V.int .u64 (z13.2.2.2.2.1)), (V.int .u64 (z13.2.2.2.2.2.1)), (V.int .u64 (z13.2.2.2.2.2.2.1))]), (Blk.cells [(V.fn 42 [] [(V.ptr 1 0)])]), (Blk.cells [(V.int .i64 0)]), (Blk.cells [(V.bool false)]), (Blk.cells [(V.int .u64 (z13.2.2.1)), (V.int .u64 (z13.2.2.2.1)), (V.int .u64 (z13.2.2.2.2.1)), (V.int .u64 (z13.2.2.2.2.2.1)), (V.int .u64 (z13.2.2.2.2.2.2.1))]), (Blk.cells [(V.int .u64 (z13.2.2.1)), (V.int .u64 (z13.2.2.2.1)), (V.int .u64 (z13.2.2.2.2.1)), (V.int .u64 (z13.2.2.2.2.2.1)), (V.int .u64 (z13.2.2.2.2.2.2.1))]), (Blk.cells [(V.int .i64 (z13.2.2.2.2.2.2.2.2.1))]), (Blk.cells [(V.bool true)]), Blk.dfr, (Blk.loop .ready none ⟨39, [37], (subC [1, 0, 1, 1, 1, 0, 1, 0, 0, 1, 1, 0, 0, 1, 1, 1, 1, 1, 0, 0] (bodyOf Tryd.f39)), (subC [1, 0, 1, 1, 1, 0, 1, 0, 0, 1, 1, 0, 0, 1, 1, 1, 1, 1, 0, 1] (bodyOf Tryd.f39)), [(7, (V.ptr 3 0)), (8, (V.ptr 4 0)), (9, (V.ptr 5 0))], 10⟩), (Blk.cells [(V.yld 11)]), (Blk.cells [(V.int .u64 (z13.2.2.2.1))]), (Blk.cells [(V.bool true)]), Blk.dfr, (Blk.loop .busy none ⟨106, [11], (subC [1, 1, 0, 0] (bodyOf Tryd.f106)), (subC [1, 1, 0, 1] (bodyOf Tryd.f106)), [(1, (V.ptr 7 0)), (2, (V.ptr 9 0)), (3, (V.ptr 8 0)), (4, (V.ptr 12 0))], 15⟩), (Blk.row (.int .i64) (z13.1) 3 (z13q.1)), (Blk.cells [(V.int .i64 (z13.2.2.2.2.2.2.2.2.2.1))]), (Blk.cells [(V.int .u64 (z13.2.2.1))]), (Blk.cells [(V.bool true)]), (Blk.loop .ready none ⟨106, [16], (subC [1, 1, 0, 1, 0, 1, 0, 0] (bodyOf Tryd.f106)), (subC [1, 1, 0, 1, 0, 1, 0, 1] (bodyOf Tryd.f106)), [(3, (V.ptr 8 0)), (4, (V.ptr 12 0)), (5, (V.ptr 18 0))], 15⟩), (Blk.row (.int .i64) (z13.2.1) 3 (z13q.2))], []⟩))) := by kernel_rfl
theorem next_Last_l0_ok (n : Nat) : Owed next_Last_cx 127 next_Last_lp (n + 3) next_Last_l0_lp := loop_owed (fun z y h => h) fun k z13 z13q z13c y14_ K h hK next hnext => by
  refine cast (next_Last_l0_round n z13 z13q z13c K next).symm ?_
  simp only [next_Last_l0] at h
  refine req_intro rfl ?_
  refine br_both h (fun hb h => ?_) (fun hb h => ?_)
  · iterate 12 refine req_intro rfl ?_
    obtain ⟨q, h⟩ := req_of h
    refine req_intro (band (band_l q) (band_r q)) ?_
    obtain ⟨q, h⟩ := req_of h
    refine req_intro q ?_
    iterate 20 refine req_intro rfl ?_
    refine br_both h (fun hb h => ?_) (fun hb h => ?_)
    · iterate 3 refine req_intro rfl ?_
      subst h
      refine ⟨_, ?_, hK⟩
      exact wk_of (Or.inr ⟨trivial, ⟨Or.inl rfl, Or.inl rfl, Or.inl rfl, Or.inl rfl, Or.inl rfl, Or.inl rfl, Or.inl rfl, Or.inl rfl, Or.inl rfl, Or.inl rfl, Or.inl rfl, Or.inl rfl, Or.inl rfl, Or.inl rfl, Or.inl rfl, Or.inl rfl, Or.inl rfl, Or.inl rfl, Or.inl rfl, Or.inl rfl, Or.inl rfl, Or.inl rfl, Or.inl rfl, trivial⟩, rfl, rfl, rfl⟩)
    · iterate 4 refine req_intro rfl ?_
      exact hnext ((z13.1), (z13.2.1), (z13.2.2.1), (z13.2.2.2.1), (z13.2.2.2.2.1), (z13.2.2.2.2.2.1), (z13.2.2.2.2.2.2.1), (z13.2.2.2.2.2.2.2.1), (z13.2.2.2.2.2.2.2.2.1), (z13.2.2.2.2.2.2.2.2.2.1), (z13.2.2.2.2.2.2.2.2.2.2.1), (IntKind.wrap .i64 ((z13.2.2.2.2.2.2.2.2.2.2.2) + 1))) _ h hK ⟨(), wk_of (Or.inr ⟨⟨Or.inl rfl, Or.inl rfl, Or.inl rfl, Or.inl rfl, Or.inl rfl, trivial⟩, ⟨Or.inl rfl, Or.inl rfl, Or.inl rfl, Or.inl rfl, Or.inl rfl, Or.inl rfl, Or.inl rfl, Or.inl rfl, Or.inl rfl, Or.inl rfl, Or.inl rfl, Or.inl rfl, Or.inl rfl, Or.inl rfl, Or.inl rfl, Or.inl rfl, Or.inl rfl, Or.inl rfl, Or.inl rfl, Or.inl rfl, Or.inl rfl, Or.inl rfl, Or.inl rfl, trivial⟩, rfl, rfl, rfl⟩)⟩
  · subst h
    refine ⟨_, ?_, hK⟩
    exact wk_of (Or.inr ⟨trivial, ⟨Or.inl rfl, Or.inl rfl, Or.inl rfl, Or.inl rfl, Or.inl rfl, Or.inl rfl, Or.inl rfl, Or.inl rfl, Or.inl rfl, Or.inl rfl, Or.inl rfl, Or.inl rfl, Or.inl rfl, Or.inl rfl, Or.inl rfl, Or.inl rfl, Or.inl rfl, Or.inl rfl, Or.inl rfl, Or.inl rfl, Or.inl rfl, Or.inl rfl, Or.inl rfl, trivial⟩, rfl, rfl, rfl⟩)
theorem next_Last_l1_round (n : Nat) (z9 : next_Last_l1_Z) (z9q : next_Last_l1_Q) (z9c : next_Last_l1_C) (K : Ret → S → Prop) (next : S → Prop) : acode next_Last_cx 127 (acall next_Last_cx okT next_Last_lp (n + 5)) kept (next_Last_lp (n + 5) 127) none next_Last_l1_body (iterK (wkK 18 K) next) (next_Last_l1_st z9 z9q z9c) =
    (req true (br (decide ((z9.2.2.2.2.2.2.2.2.2) < (z9.2.2.2.2.2.2.2.2.1))) (req true (req true (req true (req true (req true (req true (req true (req true (req true (req true (req true (req true (req ((decide (0 ≤ (IntKind.wrap .i64 ((IntKind.wrap .i64 ((((List.length (z9.1)) : Nat) : Int) - 1)) - (z9.2.2.2.2.2.2.2.2.2))))) && (decide ((IntKind.wrap .i64 ((IntKind.wrap .i64 ((((List.length (z9.1)) : Nat) : Int) - 1)) - (z9.2.2.2.2.2.2.2.2.2))) < (((List.length (z9.1)) : Nat) : Int)))) (req (Nat.blt (Int.toNat (IntKind.wrap .i64 ((IntKind.wrap .i64 ((((List.length (z9.1)) : Nat) : Int) - 1)) - (z9.2.2.2.2.2.2.2.2.2)))) (List.length (z9.1))) (req true (req true (req true (req true (req true (req true (req true (req true (req true (∃ y11 : List Int, (mask_All_R (z9.2.1) y11) ∧ (∀ c12 : Nat, (req true (req true (req true (req true (((none : Option Nat) = (none : Option Nat)) ∧ (next_Last_l0_body = next_Last_l0_body) ∧ ∃ z15 : next_Last_l0_Z, ∃ z15q : next_Last_l0_Q, ∃ y16 : next_Last_l0_Y, (23 = 23) ∧ (∃ zc : next_Last_l0_C, wk 23 ⟨[(0, (V.yld 21)), (1, (V.ptr 19 0)), (2, (V.ptr 20 0)), (6, (V.int .u64 (z9.2.1))), (7, (V.row 22 1 (List.length y11) c12)), (4, (V.row 22 1 (List.length y11) c12)), (8, (V.row 22 1 (List.length y11) c12)), (9, (V.int .i64 (((List.length y11) : Nat) : Int))), (10, (V.int .i64 0))], [(Blk.cells [(V.int .u64 (z9.2.1)), (V.int .u64 (z9.2.2.1)), (V.int .u64 (z9.2.2.2.1)), (V.int .u64 (z9.2.2.2.2.1)), (V.int .u64 (z9.2.2.2.2.2.1))]), (Blk.cells [(V.int .i64 (z9.2.2.2.2.2.2.1))]), (Blk.cells [(V.int .u64 (z9.2.1)), (V.int .u64 (z9.2.2.1)), (V.int .u64 (z9.2.2.2.1)), (V.int .u64 (z9.2.2.2.2.1)), (V.int .u64 (z9.2.2.2.2.2.1))]), (Blk.cells [(V.fn 42 [] [(V.ptr 1 0)])]), (Blk.cells [(V.int .i64 0)]), (Blk.cells [(V.bool false)]), (Blk.cells [(V.int .u64 (z9.2.1)), (V.int .u64 (z9.2.2.1)), (V.int .u64 (z9.2.2.2.1)), (V.int .u64 (z9.2.2.2.2.1)), (V.int .u64 (z9.2.2.2.2.2.1))]), (Blk.cells [(V.int .u64 (z9.2.1)), (V.int .u64 (z9.2.2.1)), (V.int .u64 (z9.2.2.2.1)), (V.int .u64 (z9.2.2.2.2.1)), (V.int .u64 (z9.2.2.2.2.2.1))]), (Blk.cells [(V.int .i64 (z9.2.2.2.2.2.2.2.1))]), (Blk.cells [(V.bool true)]), Blk.dfr, (Blk.loop .ready none ⟨39, [37], (subC [1, 0, 1, 1, 1, 0, 1, 0, 0, 1, 1, 0, 0, 1, 1, 1, 1, 1, 0, 0] (bodyOf Tryd.f39)), (subC [1, 0, 1, 1, 1, 0, 1, 0, 0, 1, 1, 0, 0, 1, 1, 1, 1, 1, 0, 1] (bodyOf Tryd.f39)), [(7, (V.ptr 3 0)), (8, (V.ptr 4 0)), (9, (V.ptr 5 0))], 10⟩), (Blk.cells [(V.yld 11)]), (Blk.cells [(V.int .u64 (z9.2.2.1))]), (Blk.cells [(V.bool true)]), Blk.dfr, (Blk.loop .busy none ⟨106, [11], (subC [1, 1, 0, 0] (bodyOf Tryd.f106)), (subC [1, 1, 0, 1] (bodyOf Tryd.f106)), [(1, (V.ptr 7 0)), (2, (V.ptr 9 0)), (3, (V.ptr 8 0)), (4, (V.ptr 12 0))], 15⟩), (Blk.row (.int .i64) (z9.1) 3 z9q), (Blk.cells [(V.int .i64 (List.getD (z9.1) (Int.toNat (IntKind.wrap .i64 ((IntKind.wrap .i64 ((((List.length (z9.1)) : Nat) : Int) - 1)) - (z9.2.2.2.2.2.2.2.2.2)))) 0))]), (Blk.cells [(V.int .u64 (z9.2.1))]), (Blk.cells [(V.bool true)]), (Blk.loop .ready none ⟨106, [16], (subC [1, 1, 0, 1, 0, 1, 0, 0] (bodyOf Tryd.f106)), (subC [1, 1, 0, 1, 0, 1, 0, 1] (bodyOf Tryd.f106)), [(1, (V.ptr 7 0)), (2, (V.ptr 9 0)), (3, (V.ptr 8 0)), (4, (V.ptr 12 0)), (11, (V.int .i64 (List.getD (z9.1) (Int.toNat (IntKind.wrap .i64 ((IntKind.wrap .i64 ((((List.length (z9.1)) : Nat) : Int) - 1)) - (z9.2.2.2.2.2.2.2.2.2)))) 0))), (5, (V.ptr 18 0)), (12, (V.ptr 7 0)), (13, (V.int .u64 (z9.2.1))), (14, (V.bool true)), (15, (V.fn 127 [] [(V.ptr 19 0), (V.ptr 20 0)]))], 15⟩), (Blk.row (.int .i64) y11 3 c12)], []⟩ (next_Last_l0_st z15 z15q zc)) ∧ (∃ k, next_Last_l0 k z15 y16) ∧ sume (fun y16 => (req true (wkK 18 K .ret ⟨[(0, (V.yld 16)), (2, (V.ptr 14 0)), (4, (V.row 17 1 (List.length (z9.1)) z9q)), (9, (V.int .i64 (z9.2.2.2.2.2.2.2.2.1))), (10, (V.int .i64 (z9.2.2.2.2.2.2.2.2.2))), (11, (V.bool (decide ((z9.2.2.2.2.2.2.2.2.2) < (z9.2.2.2.2.2.2.2.2.1))))), (12, (V.int .i64 (z9.2.2.2.2.2.2.2.2.2))), (5, (V.int .i64 (IntKind.wrap .i64 ((IntKind.wrap .i64 ((((List.length (z9.1)) : Nat) : Int) - 1)) - (z9.2.2.2.2.2.2.2.2.2))))), (13, (V.bool true)), (14, (V.row 17 1 (List.length (z9.1)) z9q)), (15, (V.int .i64 (((List.length (z9.1)) : Nat) : Int))), (16, (V.int .i64 (IntKind.wrap .i64 ((((List.length (z9.1)) : Nat) : Int) - 1)))), (17, (V.int .i64 (z9.2.2.2.2.2.2.2.2.2))), (18, (V.int .i64 (IntKind.wrap .i64 ((IntKind.wrap .i64 ((((List.length (z9.1)) : Nat) : Int) - 1)) - (z9.2.2.2.2.2.2.2.2.2))))), (19, (V.yld 16)), (20, (V.row 17 1 (List.length (z9.1)) z9q)), (21, (V.int .i64 (IntKind.wrap .i64 ((IntKind.wrap .i64 ((((List.length (z9.1)) : Nat) : Int) - 1)) - (z9.2.2.2.2.2.2.2.2.2))))), (22, (V.rp 17 1 (Int.toNat (IntKind.wrap .i64 ((IntKind.wrap .i64 ((((List.length (z9.1)) : Nat) : Int) - 1)) - (z9.2.2.2.2.2.2.2.2.2)))) 0)), (23, (V.int .i64 (List.getD (z9.1) (Int.toNat (IntKind.wrap .i64 ((IntKind.wrap .i64 ((((List.length (z9.1)) : Nat) : Int) - 1)) - (z9.2.2.2.2.2.2.2.2.2)))) 0))), (24, (V.bool false)), (25, (V.bool true))], [(Blk.cells [(V.int .u64 (z15.2.2.1)), (V.int .u64 (z15.2.2.2.1)), (V.int .u64 (z15.2.2.2.2.1)), (V.int .u64 (z15.2.2.2.2.2.1)), (V.int .u64 (z15.2.2.2.2.2.2.1))]), (Blk.cells [(V.int .i64 (z15.2.2.2.2.2.2.2.1))]), (Blk.cells [(V.int .u64 (z15.2.2.1)), (V.int .u64 (z15.2.2.2.1)), (V.int .u64 (z15.2.2.2.2.1)), (V.int .u64 (z15.2.2.2.2.2.1)), (V.int .u64 (z15.2.2.2.2.2.2.1))]), (Blk.cells [(V.fn 42 [] [(V.ptr 1 0)])]), (Blk.cells [(V.int .i64 y16)]), (Blk.cells [(V.bool true)]), (Blk.cells [(V.int .u64 (z15.2.2.1)), (V.int .u64 (z15.2.2.2.1)), (V.int .u64 (z15.2.2.2.2.1)), (V.int .u64 (z15.2.2.2.2.2.1)), (V.int .u64 (z15.2.2.2.2.2.2.1))]), (Blk.cells [(V.int .u64 (z15.2.2.1)), (V.int .u64 (z15.2.2.2.1)), (V.int .u64 (z15.2.2.2.2.1)), (V.int .u64 (z15.2.2.2.2.2.1)), (V.int .u64 (z15.2.2.2.2.2.2.1))]), (Blk.cells [(V.int .i64 (z15.2.2.2.2.2.2.2.2.1))]), (Blk.cells [(V.bool true)]), Blk.dfr, (Blk.loop .done (some (.exit 0)) ⟨39, [37], (subC [1, 0, 1, 1, 1, 0, 1, 0, 0, 1, 1, 0, 0, 1, 1, 1, 1, 1, 0, 0] (bodyOf Tryd.f39)), (subC [1, 0, 1, 1, 1, 0, 1, 0, 0, 1, 1, 0, 0, 1, 1, 1, 1, 1, 0, 1] (bodyOf Tryd.f39)), [(7, (V.ptr 3 0)), (8, (V.ptr 4 0)), (9, (V.ptr 5 0))], 10⟩), (Blk.cells [(V.yld 11)]), (Blk.cells [(V.int .u64 (z15.2.2.2.1))]), (Blk.cells [(V.bool true)]), Blk.dfr, (Blk.loop .done (some .ret) ⟨106, [11], (subC [1, 1, 0, 0] (bodyOf Tryd.f106)), (subC [1, 1, 0, 1] (bodyOf Tryd.f106)), [(1, (V.ptr 7 0)), (2, (V.ptr 9 0)), (3, (V.ptr 8 0)), (4, (V.ptr 12 0))], 15⟩), (Blk.row (.int .i64) (z15.1) 3 (z15q.1))], []⟩))) (fun y16 => (req true (req true (req true (next ⟨[(0, (V.yld 16)), (2, (V.ptr 14 0)), (4, (V.row 17 1 (List.length (z9.1)) z9q)), (9, (V.int .i64 (z9.2.2.2.2.2.2.2.2.1))), (10, (V.int .i64 (IntKind.wrap .i64 ((z9.2.2.2.2.2.2.2.2.2) + 1)))), (11, (V.bool (decide ((z9.2.2.2.2.2.2.2.2.2) < (z9.2.2.2.2.2.2.2.2.1))))), (12, (V.int .i64 (z9.2.2.2.2.2.2.2.2.2))), (5, (V.int .i64 (IntKind.wrap .i64 ((IntKind.wrap .i64 ((((List.length (z9.1)) : Nat) : Int) - 1)) - (z9.2.2.2.2.2.2.2.2.2))))), (13, (V.bool true)), (14, (V.row 17 1 (List.length (z9.1)) z9q)), (15, (V.int .i64 (((List.length (z9.1)) : Nat) : Int))), (16, (V.int .i64 (IntKind.wrap .i64 ((((List.length (z9.1)) : Nat) : Int) - 1)))), (17, (V.int .i64 (z9.2.2.2.2.2.2.2.2.2))), (18, (V.int .i64 (IntKind.wrap .i64 ((IntKind.wrap .i64 ((((List.length (z9.1)) : Nat) : Int) - 1)) - (z9.2.2.2.2.2.2.2.2.2))))), (19, (V.yld 16)), (20, (V.row 17 1 (List.length (z9.1)) z9q)), (21, (V.int .i64 (IntKind.wrap .i64 ((IntKind.wrap .i64 ((((List.length (z9.1)) : Nat) : Int) - 1)) - (z9.2.2.2.2.2.2.2.2.2))))), (22, (V.rp 17 1 (Int.toNat (IntKind.wrap .i64 ((IntKind.wrap .i64 ((((List.length (z9.1)) : Nat) : Int) - 1)) - (z9.2.2.2.2.2.2.2.2.2)))) 0)), (23, (V.int .i64 (List.getD (z9.1) (Int.toNat (IntKind.wrap .i64 ((IntKind.wrap .i64 ((((List.length (z9.1)) : Nat) : Int) - 1)) - (z9.2.2.2.2.2.2.2.2.2)))) 0))), (24, (V.bool true)), (25, (V.bool false)), (26, (V.int .i64 (IntKind.wrap .i64 ((z9.2.2.2.2.2.2.2.2.2) + 1))))], [(Blk.cells [(V.int .u64 (z15.2.2.1)), (V.int .u64 (z15.2.2.2.1)), (V.int .u64 (z15.2.2.2.2.1)), (V.int .u64 (z15.2.2.2.2.2.1)), (V.int .u64 (z15.2.2.2.2.2.2.1))]), (Blk.cells [(V.int .i64 (z15.2.2.2.2.2.2.2.1))]), (Blk.cells [(V.int .u64 (z15.2.2.1)), (V.int .u64 (z15.2.2.2.1)), (V.int .u64 (z15.2.2.2.2.1)), (V.int .u64 (z15.2.2.2.2.2.1)), (V.int .u64 (z15.2.2.2.2.2.2.1))]), (Blk.cells [(V.fn 42 [] [(V.ptr 1 0)])]), (Blk.cells [(V.int .i64 0)]), (Blk.cells [(V.bool false)]), (Blk.cells [(V.int .u64 (z15.2.2.1)), (V.int .u64 (z15.2.2.2.1)), (V.int .u64 (z15.2.2.2.2.1)), (V.int .u64 (z15.2.2.2.2.2.1)), (V.int .u64 (z15.2.2.2.2.2.2.1))]), (Blk.cells [(V.int .u64 (z15.2.2.1)), (V.int .u64 (z15.2.2.2.1)), (V.int .u64 (z15.2.2.2.2.1)), (V.int .u64 (z15.2.2.2.2.2.1)), (V.int .u64 (z15.2.2.2.2.2.2.1))]), (Blk.cells [(V.int .i64 (z15.2.2.2.2.2.2.2.2.1))]), (Blk.cells [(V.bool true)]), Blk.dfr, (Blk.loop .ready none ⟨39, [37], (subC [1, 0, 1, 1, 1, 0, 1, 0, 0, 1, 1, 0, 0, 1, 1, 1, 1, 1, 0, 0] (bodyOf Tryd.f39)), (subC [1, 0, 1, 1, 1, 0, 1, 0, 0, 1, 1, 0, 0, 1, 1, 1, 1, 1, 0, 1] (bodyOf Tryd.f39)), [(7, (V.ptr 3 0)), (8, (V.ptr 4 0)), (9, (V.ptr 5 0))], 10⟩), (Blk.cells [(V.yld 11)]), (Blk.cells [(V.int .u64 (z15.2.2.2.1))]), (Blk.cells [(V.bool true)]), Blk.dfr, (Blk.loop .ready none ⟨106, [11], (subC [1, 1, 0, 0] (bodyOf Tryd.f106)), (subC [1, 1, 0, 1] (bodyOf Tryd.f106)), [(1, (V.ptr 7 0)), (2, (V.ptr 9 0)), (3, (V.ptr 8 0)), (4, (V.ptr 12 0))], 15⟩), (Blk.row (.int .i64) (z15.1) 3 (z15q.1))], []⟩))))) y16)))))))))))))))))))))))))))))) (wkK 18 K (.exit 0) ⟨[(0, (V.yld 16)), (2, (V.ptr 14 0)), (4, (V.row 17 1 (List.length (z9.1)) z9q)), (9, (V.int .i64 (z9.2.2.2.2.2.2.2.2.1))), (10, (V.int .i64 (z9.2.2.2.2.2.2.2.2.2))), (11, (V.bool (decide ((z9.2.2.2.2.2.2.2.2.2) < (z9.2.2.2.2.2.2.2.2.1)))))], [(Blk.cells [(V.int .u64 (z9.2.1)), (V.int .u64 (z9.2.2.1)), (V.int .u64 (z9.2.2.2.1)), (V.int .u64 (z9.2.2.2.2.1)), (V.int .u64 (z9.2.2.2.2.2.1))]), (Blk.cells [(V.int .i64 (z9.2.2.2.2.2.2.1))]), (Blk.cells [(V.int .u64 (z9.2.1)), (V.int .u64 (z9.2.2.1)), (V.int .u64 (z9.2.2.2.1)), (V.int .u64 (z9.2.2.2.2.1)), (V.int .u64 (z9.2.2.2.2.2.1))]), (Blk.cells [(V.fn 42 [] [(V.ptr 1 0)])]), (Blk.cells [(V.int .i64 0)]), (Blk.cells [(V.bool false)]), (Blk.cells [(V.int .u64 (z9.2.1)), (V.int .u64 (z9.2.2.1)), (V.int .u64 (z9.2.2.2.1)), (V.int .u64 (z9.2.2.2.2.1)), (V.int .u64 (z9.2.2.2.2.2.1))]), (Blk.cells [(V.int .u64 (z9.2.1)), (V.int .u64 (z9.2.2.1)), (V.int .u64 (z9.2.2.2.1)), (V.int .u64 (z9.2.2.2.2.1)), (V.int .u64 (z9.2.2.2.2.2.1))]), (Blk.cells [(V.int .i64 (z9.2.2.2.2.2.2.2.1))]), (Blk.cells [(V.bool true)]), Blk.dfr, (Blk.loop .ready none ⟨39, [37], (subC [1, 0, 1, 1, 1, 0, 1, 0, 0, 1, 1, 0, 0, 1, 1, 1, 1, 1, 0, 0] (bodyOf Tryd.f39)), (subC [1, 0, 1, 1, 1, 0, 1, 0, 0, 1, 1, 0, 0, 1, 1, 1, 1, 1, 0, 1] (bodyOf Tryd.f39)), [(7, (V.ptr 3 0)), (8, (V.ptr 4 0)), (9, (V.ptr 5 0))], 10⟩), (Blk.cells [(V.yld 11)]), (Blk.cells [(V.int .u64 (z9.2.2.1))]), (Blk.cells [(V.bool true)]), Blk.dfr, (Blk.loop .ready none ⟨106, [11], (subC [1, 1, 0, 0] (bodyOf Tryd.f106)), (subC [1, 1, 0, 1] (bodyOf Tryd.f106)), [(1, (V.ptr 7 0)), (2, (V.ptr 9 0)), (3, (V.ptr 8 0)), (4, (V.ptr 12 0))], 15⟩), (Blk.row (.int .i64) (z9.1) 3 z9q)], []⟩))) := by kernel_rfl
theorem next_Last_l1_ok (n : Nat) : Owed next_Last_cx 127 next_Last_lp (n + 5) next_Last_l1_lp := loop_owed (fun z y h => h) fun k z9 z9q z9c y10_ K h hK next hnext => by
  refine cast (next_Last_l1_round n z9 z9q z9c K next).symm ?_
  simp only [next_Last_l1] at h
  refine req_intro rfl ?_
  refine br_both h (fun hb h => ?_) (fun hb h => ?_)
  · iterate 12 refine req_intro rfl ?_
    obtain ⟨q, h⟩ := req_of h
    refine req_intro (band (band_l q) (band_r q)) ?_
    obtain ⟨q, h⟩ := req_of h
    refine req_intro q ?_
    iterate 9 refine req_intro rfl ?_
    obtain ⟨y11, ry11, h⟩ := h
    refine ⟨y11, ry11, ?_⟩
    intro c12
    iterate 4 refine req_intro rfl ?_
    obtain ⟨y16, ry16, h⟩ := h
    refine ⟨rfl, rfl, ((z9.1), y11, (z9.2.1), (z9.2.2.1), (z9.2.2.2.1), (z9.2.2.2.2.1), (z9.2.2.2.2.2.1), (z9.2.2.2.2.2.2.1), (z9.2.2.2.2.2.2.2.1), (List.getD (z9.1) (Int.toNat (IntKind.wrap .i64 ((IntKind.wrap .i64 ((((List.length (z9.1)) : Nat) : Int) - 1)) - (z9.2.2.2.2.2.2.2.2.2)))) 0), (((List.length y11) : Nat) : Int), 0), (z9q, c12), y16, rfl, ⟨(), wk_of (Or.inr ⟨⟨Or.inl rfl, Or.inl rfl, Or.inl rfl, Or.inl rfl, Or.inl rfl, trivial⟩, ⟨Or.inl rfl, Or.inl rfl, Or.inl rfl, Or.inl rfl, Or.inl rfl, Or.inl rfl, Or.inl rfl, Or.inl rfl, Or.inl rfl, Or.inl rfl, Or.inl rfl, Or.inl rfl, Or.inl rfl, Or.inl rfl, Or.inl rfl, Or.inl rfl, Or.inl rfl, Or.inl rfl, Or.inl rfl, Or.inl rfl, Or.inl rfl, Or.inr (Or.inr (Or.inr ⟨rfl, rfl, rfl, rfl, rfl, rfl, rfl, ⟨Or.inl rfl, Or.inl rfl, Or.inl rfl, trivial⟩⟩)), Or.inl rfl, trivial⟩, rfl, rfl, rfl⟩)⟩, ry16, ?_⟩
    refine sume_both h (fun y16 h => ?_) (fun y16 h => ?_)
    · refine req_intro rfl ?_
      subst h
      refine ⟨_, ?_, hK⟩
      exact wk_of (Or.inr ⟨trivial, ⟨Or.inl rfl, Or.inl rfl, Or.inl rfl, Or.inl rfl, Or.inl rfl, Or.inl rfl, Or.inl rfl, Or.inl rfl, Or.inl rfl, Or.inl rfl, Or.inl rfl, Or.inl rfl, Or.inl rfl, Or.inl rfl, Or.inl rfl, Or.inl rfl, Or.inl rfl, Or.inl rfl, trivial⟩, rfl, rfl, rfl⟩)
    · iterate 3 refine req_intro rfl ?_
      exact hnext ((z9.1), (z9.2.1), (z9.2.2.1), (z9.2.2.2.1), (z9.2.2.2.2.1), (z9.2.2.2.2.2.1), (z9.2.2.2.2.2.2.1), (z9.2.2.2.2.2.2.2.1), (z9.2.2.2.2.2.2.2.2.1), (IntKind.wrap .i64 ((z9.2.2.2.2.2.2.2.2.2) + 1))) _ h hK ⟨(), wk_of (Or.inr ⟨⟨Or.inl rfl, Or.inl rfl, Or.inl rfl, Or.inl rfl, Or.inl rfl, trivial⟩, ⟨Or.inl rfl, Or.inl rfl, Or.inl rfl, Or.inl rfl, Or.inl rfl, Or.inl rfl, Or.inl rfl, Or.inl rfl, Or.inl rfl, Or.inl rfl, Or.inl rfl, Or.inl rfl, Or.inl rfl, Or.inl rfl, Or.inl rfl, Or.inl rfl, Or.inl rfl, Or.inl rfl, trivial⟩, rfl, rfl, rfl⟩)⟩
  · subst h
    refine ⟨_, ?_, hK⟩
    exact wk_of (Or.inr ⟨trivial, ⟨Or.inl rfl, Or.inl rfl, Or.inl rfl, Or.inl rfl, Or.inl rfl, Or.inl rfl, Or.inl rfl, Or.inl rfl, Or.inl rfl, Or.inl rfl, Or.inl rfl, Or.inl rfl, Or.inl rfl, Or.inl rfl, Or.inl rfl, Or.inl rfl, Or.inl rfl, Or.inl rfl, trivial⟩, rfl, rfl, rfl⟩)
theorem next_Last_l2_round (n : Nat) (z3 : next_Last_l2_Z) (z3q : next_Last_l2_Q) (z3c : next_Last_l2_C) (K : Ret → S → Prop) (next : S → Prop) : acode next_Last_cx 39 (acall next_Last_cx okT next_Last_lp (n + 7)) kept (next_Last_lp (n + 7) 39) none next_Last_l2_body (iterK (wkK 7 K) next) (next_Last_l2_st z3 z3q z3c) =
    (req true (br (decide ((z3.2.2.2.2.2.2.2) < 2923)) (req true (req true (req true (req true (req true (req true (req true (req true (req true (req true (req true (req true (req true (req true (req true (req true (∃ y5 : (Int × Int × Int) × Int, (days_At_R (IntKind.wrap .i64 ((z3.2.2.2.2.2.2.1) - (z3.2.2.2.2.2.2.2))) y5) ∧ (req true (req true (req true (req true (req true (req true (req true (br ((y5.2) == 0) (req true (req true (req true (∃ y6 : Bool, (cron_Day_R (z3.1) (z3.2.1) (z3.2.2.1) (z3.2.2.2.1) (z3.2.2.2.2.1) ((y5.1).1) (((y5.1).2).1) (((y5.1).2).2) y6) ∧ (req true (req true (req true (br (!y6) (req true (req true (next ⟨[(1, (V.int .i64 (z3.2.2.2.2.2.2.1))), (2, (V.bool true)), (4, (V.ptr 2 0)), (7, (V.ptr 3 0)), (8, (V.ptr 4 0)), (9, (V.ptr 5 0)), (10, (V.fn 105 [] [(V.ptr 6 0)])), (19, (V.int .i64 (IntKind.wrap .i64 ((z3.2.2.2.2.2.2.2) + 1)))), (20, (V.bool (decide ((z3.2.2.2.2.2.2.2) < 2923)))), (21, (V.int .i64 (z3.2.2.2.2.2.2.2))), (11, (V.int .i64 (z3.2.2.2.2.2.2.2))), (22, (V.int .i64 (z3.2.2.2.2.2.2.1))), (23, (V.int .i64 (z3.2.2.2.2.2.2.2))), (24, (V.int .i64 (IntKind.wrap .i64 ((z3.2.2.2.2.2.2.1) + (z3.2.2.2.2.2.2.2))))), (12, (V.int .i64 (IntKind.wrap .i64 ((z3.2.2.2.2.2.2.1) - (z3.2.2.2.2.2.2.2))))), (25, (V.bool true)), (26, (V.int .i64 (z3.2.2.2.2.2.2.1))), (27, (V.int .i64 (z3.2.2.2.2.2.2.2))), (28, (V.int .i64 (IntKind.wrap .i64 ((z3.2.2.2.2.2.2.1) - (z3.2.2.2.2.2.2.2))))), (29, (V.fn 105 [] [(V.ptr 6 0)])), (30, (V.int .i64 (IntKind.wrap .i64 ((z3.2.2.2.2.2.2.1) - (z3.2.2.2.2.2.2.2))))), (31, (V.bool y6)), (32, (V.bool (!y6))), (42, (V.int .i64 (IntKind.wrap .i64 ((z3.2.2.2.2.2.2.2) + 1))))], [(Blk.cells [(V.int .u64 (z3.1)), (V.int .u64 (z3.2.1)), (V.int .u64 (z3.2.2.1)), (V.int .u64 (z3.2.2.2.1)), (V.int .u64 (z3.2.2.2.2.1))]), (Blk.cells [(V.int .i64 (z3.2.2.2.2.2.1))]), (Blk.cells [(V.int .u64 (z3.1)), (V.int .u64 (z3.2.1)), (V.int .u64 (z3.2.2.1)), (V.int .u64 (z3.2.2.2.1)), (V.int .u64 (z3.2.2.2.2.1))]), (Blk.cells [(V.fn 42 [] [(V.ptr 1 0)])]), (Blk.cells [(V.int .i64 0)]), (Blk.cells [(V.bool false)]), (Blk.cells [(V.int .u64 (z3.1)), (V.int .u64 (z3.2.1)), (V.int .u64 (z3.2.2.1)), (V.int .u64 (z3.2.2.2.1)), (V.int .u64 (z3.2.2.2.2.1))])], []⟩))) (req true (req true (req true (req true (req true (req true (req true (req true (req true (req true (req true (req true (req true (req true (∃ y7 : List Int, (mask_All_R (z3.2.1) y7) ∧ (∀ c8 : Nat, (req true (req true (req true (req true (((none : Option Nat) = (none : Option Nat)) ∧ (next_Last_l1_body = next_Last_l1_body) ∧ ∃ z17 : next_Last_l1_Z, ∃ z17q : next_Last_l1_Q, ∃ y18 : next_Last_l1_Y, (18 = 18) ∧ (∃ zc : next_Last_l1_C, wk 18 ⟨[(0, (V.yld 16)), (1, (V.ptr 13 0)), (2, (V.ptr 14 0)), (6, (V.int .u64 (z3.2.1))), (7, (V.row 17 1 (List.length y7) c8)), (4, (V.row 17 1 (List.length y7) c8)), (8, (V.row 17 1 (List.length y7) c8)), (9, (V.int .i64 (((List.length y7) : Nat) : Int))), (10, (V.int .i64 0))], [(Blk.cells [(V.int .u64 (z3.1)), (V.int .u64 (z3.2.1)), (V.int .u64 (z3.2.2.1)), (V.int .u64 (z3.2.2.2.1)), (V.int .u64 (z3.2.2.2.2.1))]), (Blk.cells [(V.int .i64 (z3.2.2.2.2.2.1))]), (Blk.cells [(V.int .u64 (z3.1)), (V.int .u64 (z3.2.1)), (V.int .u64 (z3.2.2.1)), (V.int .u64 (z3.2.2.2.1)), (V.int .u64 (z3.2.2.2.2.1))]), (Blk.cells [(V.fn 42 [] [(V.ptr 1 0)])]), (Blk.cells [(V.int .i64 0)]), (Blk.cells [(V.bool false)]), (Blk.cells [(V.int .u64 (z3.1)), (V.int .u64 (z3.2.1)), (V.int .u64 (z3.2.2.1)), (V.int .u64 (z3.2.2.2.1)), (V.int .u64 (z3.2.2.2.2.1))]), (Blk.cells [(V.int .u64 (z3.1)), (V.int .u64 (z3.2.1)), (V.int .u64 (z3.2.2.1)), (V.int .u64 (z3.2.2.2.1)), (V.int .u64 (z3.2.2.2.2.1))]), (Blk.cells [(V.int .i64 (IntKind.wrap .i64 ((z3.2.2.2.2.2.2.1) - (z3.2.2.2.2.2.2.2))))]), (Blk.cells [(V.bool true)]), Blk.dfr, (Blk.loop .ready none ⟨39, [37], (subC [1, 0, 1, 1, 1, 0, 1, 0, 0, 1, 1, 0, 0, 1, 1, 1, 1, 1, 0, 0] (bodyOf Tryd.f39)), (subC [1, 0, 1, 1, 1, 0, 1, 0, 0, 1, 1, 0, 0, 1, 1, 1, 1, 1, 0, 1] (bodyOf Tryd.f39)), [(1, (V.int .i64 (z3.2.2.2.2.2.2.1))), (2, (V.bool true)), (4, (V.ptr 2 0)), (7, (V.ptr 3 0)), (8, (V.ptr 4 0)), (9, (V.ptr 5 0)), (10, (V.fn 105 [] [(V.ptr 6 0)])), (19, (V.int .i64 (z3.2.2.2.2.2.2.2))), (20, (V.bool (decide ((z3.2.2.2.2.2.2.2) < 2923)))), (21, (V.int .i64 (z3.2.2.2.2.2.2.2))), (11, (V.int .i64 (z3.2.2.2.2.2.2.2))), (22, (V.int .i64 (z3.2.2.2.2.2.2.1))), (23, (V.int .i64 (z3.2.2.2.2.2.2.2))), (24, (V.int .i64 (IntKind.wrap .i64 ((z3.2.2.2.2.2.2.1) + (z3.2.2.2.2.2.2.2))))), (12, (V.int .i64 (IntKind.wrap .i64 ((z3.2.2.2.2.2.2.1) - (z3.2.2.2.2.2.2.2))))), (25, (V.bool true)), (26, (V.int .i64 (z3.2.2.2.2.2.2.1))), (27, (V.int .i64 (z3.2.2.2.2.2.2.2))), (28, (V.int .i64 (IntKind.wrap .i64 ((z3.2.2.2.2.2.2.1) - (z3.2.2.2.2.2.2.2))))), (29, (V.fn 105 [] [(V.ptr 6 0)])), (30, (V.int .i64 (IntKind.wrap .i64 ((z3.2.2.2.2.2.2.1) - (z3.2.2.2.2.2.2.2))))), (31, (V.bool y6)), (32, (V.bool (!y6))), (33, (V.agg [(V.int .u64 (z3.1)), (V.int .u64 (z3.2.1)), (V.int .u64 (z3.2.2.1)), (V.int .u64 (z3.2.2.2.1)), (V.int .u64 (z3.2.2.2.2.1))])), (34, (V.int .i64 (IntKind.wrap .i64 ((z3.2.2.2.2.2.2.1) - (z3.2.2.2.2.2.2.2))))), (35, (V.bool true)), (36, (V.fn 106 [] [(V.ptr 7 0), (V.ptr 9 0), (V.ptr 8 0)]))], 10⟩), (Blk.cells [(V.yld 11)]), (Blk.cells [(V.int .u64 (z3.2.1))]), (Blk.cells [(V.bool true)]), Blk.dfr, (Blk.loop .ready none ⟨106, [11], (subC [1, 1, 0, 0] (bodyOf Tryd.f106)), (subC [1, 1, 0, 1] (bodyOf Tryd.f106)), [(0, (V.yld 11)), (1, (V.ptr 7 0)), (2, (V.ptr 9 0)), (3, (V.ptr 8 0)), (4, (V.ptr 12 0)), (7, (V.ptr 7 1)), (8, (V.int .u64 (z3.2.1))), (9, (V.bool true)), (10, (V.fn 127 [] [(V.ptr 13 0), (V.ptr 14 0)]))], 15⟩), (Blk.row (.int .i64) y7 3 c8)], []⟩ (next_Last_l1_st z17 z17q zc)) ∧ (∃ k, next_Last_l1 k z17 y18) ∧ sume (fun y18 => (wkK 7 K (.exit 0) ⟨[(1, (V.int .i64 (z3.2.2.2.2.2.2.1))), (2, (V.bool true)), (4, (V.ptr 2 0)), (7, (V.ptr 3 0)), (8, (V.ptr 4 0)), (9, (V.ptr 5 0)), (10, (V.fn 105 [] [(V.ptr 6 0)])), (19, (V.int .i64 (z3.2.2.2.2.2.2.2))), (20, (V.bool (decide ((z3.2.2.2.2.2.2.2) < 2923)))), (21, (V.int .i64 (z3.2.2.2.2.2.2.2))), (11, (V.int .i64 (z3.2.2.2.2.2.2.2))), (22, (V.int .i64 (z3.2.2.2.2.2.2.1))), (23, (V.int .i64 (z3.2.2.2.2.2.2.2))), (24, (V.int .i64 (IntKind.wrap .i64 ((z3.2.2.2.2.2.2.1) + (z3.2.2.2.2.2.2.2))))), (12, (V.int .i64 (IntKind.wrap .i64 ((z3.2.2.2.2.2.2.1) - (z3.2.2.2.2.2.2.2))))), (25, (V.bool true)), (26, (V.int .i64 (z3.2.2.2.2.2.2.1))), (27, (V.int .i64 (z3.2.2.2.2.2.2.2))), (28, (V.int .i64 (IntKind.wrap .i64 ((z3.2.2.2.2.2.2.1) - (z3.2.2.2.2.2.2.2))))), (29, (V.fn 105 [] [(V.ptr 6 0)])), (30, (V.int .i64 (IntKind.wrap .i64 ((z3.2.2.2.2.2.2.1) - (z3.2.2.2.2.2.2.2))))), (31, (V.bool y6)), (32, (V.bool (!y6))), (33, (V.agg [(V.int .u64 (z3.1)), (V.int .u64 (z3.2.1)), (V.int .u64 (z3.2.2.1)), (V.int .u64 (z3.2.2.2.1)), (V.int .u64 (z3.2.2.2.2.1))])), (34, (V.int .i64 (IntKind.wrap .i64 ((z3.2.2.2.2.2.2.1) - (z3.2.2.2.2.2.2.2))))), (35, (V.bool true)), (36, (V.fn 106 [] [(V.ptr 7 0), (V.ptr 9 0), (V.ptr 8 0)]))], [(Blk.cells [(V.int .u64 (z17.2.1)), (V.int .u64 (z17.2.2.1)), (V.int .u64 (z17.2.2.2.1)), (V.int .u64 (z17.2.2.2.2.1)), (V.int .u64 (z17.2.2.2.2.2.1))]), (Blk.cells [(V.int .i64 (z17.2.2.2.2.2.2.1))]), (Blk.cells [(V.int .u64 (z17.2.1)), (V.int .u64 (z17.2.2.1)), (V.int .u64 (z17.2.2.2.1)), (V.int .u64 (z17.2.2.2.2.1)), (V.int .u64 (z17.2.2.2.2.2.1))]), (Blk.cells [(V.fn 42 [] [(V.ptr 1 0)])]), (Blk.cells [(V.int .i64 y18)]), (Blk.cells [(V.bool true)]), (Blk.cells [(V.int .u64 (z17.2.1)), (V.int .u64 (z17.2.2.1)), (V.int .u64 (z17.2.2.2.1)), (V.int .u64 (z17.2.2.2.2.1)), (V.int .u64 (z17.2.2.2.2.2.1))]), (Blk.cells [(V.int .u64 (z17.2.1)), (V.int .u64 (z17.2.2.1)), (V.int .u64 (z17.2.2.2.1)), (V.int .u64 (z17.2.2.2.2.1)), (V.int .u64 (z17.2.2.2.2.2.1))]), (Blk.cells [(V.int .i64 (z17.2.2.2.2.2.2.2.1))]), (Blk.cells [(V.bool true)]), Blk.dfr, Blk.dead], [10]⟩)) (fun y18 => (req true (req true (next ⟨[(1, (V.int .i64 (z3.2.2.2.2.2.2.1))), (2, (V.bool true)), (4, (V.ptr 2 0)), (7, (V.ptr 3 0)), (8, (V.ptr 4 0)), (9, (V.ptr 5 0)), (10, (V.fn 105 [] [(V.ptr 6 0)])), (19, (V.int .i64 (IntKind.wrap .i64 ((z3.2.2.2.2.2.2.2) + 1)))), (20, (V.bool (decide ((z3.2.2.2.2.2.2.2) < 2923)))), (21, (V.int .i64 (z3.2.2.2.2.2.2.2))), (11, (V.int .i64 (z3.2.2.2.2.2.2.2))), (22, (V.int .i64 (z3.2.2.2.2.2.2.1))), (23, (V.int .i64 (z3.2.2.2.2.2.2.2))), (24, (V.int .i64 (IntKind.wrap .i64 ((z3.2.2.2.2.2.2.1) + (z3.2.2.2.2.2.2.2))))), (12, (V.int .i64 (IntKind.wrap .i64 ((z3.2.2.2.2.2.2.1) - (z3.2.2.2.2.2.2.2))))), (25, (V.bool true)), (26, (V.int .i64 (z3.2.2.2.2.2.2.1))), (27, (V.int .i64 (z3.2.2.2.2.2.2.2))), (28, (V.int .i64 (IntKind.wrap .i64 ((z3.2.2.2.2.2.2.1) - (z3.2.2.2.2.2.2.2))))), (29, (V.fn 105 [] [(V.ptr 6 0)])), (30, (V.int .i64 (IntKind.wrap .i64 ((z3.2.2.2.2.2.2.1) - (z3.2.2.2.2.2.2.2))))), (31, (V.bool y6)), (32, (V.bool (!y6))), (33, (V.agg [(V.int .u64 (z3.1)), (V.int .u64 (z3.2.1)), (V.int .u64 (z3.2.2.1)), (V.int .u64 (z3.2.2.2.1)), (V.int .u64 (z3.2.2.2.2.1))])), (34, (V.int .i64 (IntKind.wrap .i64 ((z3.2.2.2.2.2.2.1) - (z3.2.2.2.2.2.2.2))))), (35, (V.bool true)), (36, (V.fn 106 [] [(V.ptr 7 0), (V.ptr 9 0), (V.ptr 8 0)])), (42, (V.int .i64 (IntKind.wrap .i64 ((z3.2.2.2.2.2.2.2) + 1))))], [(Blk.cells [(V.int .u64 (z17.2.1)), (V.int .u64 (z17.2.2.1)), (V.int .u64 (z17.2.2.2.1)), (V.int .u64 (z17.2.2.2.2.1)), (V.int .u64 (z17.2.2.2.2.2.1))]), (Blk.cells [(V.int .i64 (z17.2.2.2.2.2.2.1))]), (Blk.cells [(V.int .u64 (z17.2.1)), (V.int .u64 (z17.2.2.1)), (V.int .u64 (z17.2.2.2.1)), (V.int .u64 (z17.2.2.2.2.1)), (V.int .u64 (z17.2.2.2.2.2.1))]), (Blk.cells [(V.fn 42 [] [(V.ptr 1 0)])]), (Blk.cells [(V.int .i64 0)]), (Blk.cells [(V.bool false)]), (Blk.cells [(V.int .u64 (z17.2.1)), (V.int .u64 (z17.2.2.1)), (V.int .u64 (z17.2.2.2.1)), (V.int .u64 (z17.2.2.2.2.1)), (V.int .u64 (z17.2.2.2.2.2.1))]), (Blk.cells [(V.int .u64 (z17.2.1)), (V.int .u64 (z17.2.2.1)), (V.int .u64 (z17.2.2.2.1)), (V.int .u64 (z17.2.2.2.2.1)), (V.int .u64 (z17.2.2.2.2.2.1))]), (Blk.cells [(V.int .i64 (z17.2.2.2.2.2.2.2.1))]), (Blk.cells [(V.bool true)]), Blk.dfr, Blk.dead], [10]⟩)))) y18))))))))))))))))))))))))))))) (req true (req true (req true (req true (req true (next ⟨[(1, (V.int .i64 (z3.2.2.2.2.2.2.1))), (2, (V.bool true)), (4, (V.ptr 2 0)), (7, (V.ptr 3 0)), (8, (V.ptr 4 0)), (9, (V.ptr 5 0)), (10, (V.fn 105 [] [(V.ptr 6 0)])), (19, (V.int .i64 (IntKind.wrap .i64 ((z3.2.2.2.2.2.2.2) + 1)))), (20, (V.bool (decide ((z3.2.2.2.2.2.2.2) < 2923)))), (21, (V.int .i64 (z3.2.2.2.2.2.2.2))), (11, (V.int .i64 (z3.2.2.2.2.2.2.2))), (22, (V.int .i64 (z3.2.2.2.2.2.2.1))), (23, (V.int .i64 (z3.2.2.2.2.2.2.2))), (24, (V.int .i64 (IntKind.wrap .i64 ((z3.2.2.2.2.2.2.1) + (z3.2.2.2.2.2.2.2))))), (12, (V.int .i64 (IntKind.wrap .i64 ((z3.2.2.2.2.2.2.1) - (z3.2.2.2.2.2.2.2))))), (25, (V.bool true)), (26, (V.int .i64 (z3.2.2.2.2.2.2.1))), (27, (V.int .i64 (z3.2.2.2.2.2.2.2))), (28, (V.int .i64 (IntKind.wrap .i64 ((z3.2.2.2.2.2.2.1) - (z3.2.2.2.2.2.2.2))))), (29, (V.fn 105 [] [(V.ptr 6 0)])), (30, (V.int .i64 (IntKind.wrap .i64 ((z3.2.2.2.2.2.2.1) - (z3.2.2.2.2.2.2.2))))), (31, (V.bool false)), (32, (V.bool true)), (42, (V.int .i64 (IntKind.wrap .i64 ((z3.2.2.2.2.2.2.2) + 1))))], [(Blk.cells [(V.int .u64 (z3.1)), (V.int .u64 (z3.2.1)), (V.int .u64 (z3.2.2.1)), (V.int .u64 (z3.2.2.2.1)), (V.int .u64 (z3.2.2.2.2.1))]), (Blk.cells [(V.int .i64 (z3.2.2.2.2.2.1))]), (Blk.cells [(V.int .u64 (z3.1)), (V.int .u64 (z3.2.1)), (V.int .u64 (z3.2.2.1)), (V.int .u64 (z3.2.2.2.1)), (V.int .u64 (z3.2.2.2.2.1))]), (Blk.cells [(V.fn 42 [] [(V.ptr 1 0)])]), (Blk.cells [(V.int .i64 0)]), (Blk.cells [(V.bool false)]), (Blk.cells [(V.int .u64 (z3.1)), (V.int .u64 (z3.2.1)), (V.int .u64 (z3.2.2.1)), (V.int .u64 (z3.2.2.2.1)), (V.int .u64 (z3.2.2.2.2.1))])], []⟩))))))))))))))))))))))))))))))) (wkK 7 K (.exit 0) ⟨[(1, (V.int .i64 (z3.2.2.2.2.2.2.1))), (2, (V.bool true)), (4, (V.ptr 2 0)), (7, (V.ptr 3 0)), (8, (V.ptr 4 0)), (9, (V.ptr 5 0)), (10, (V.fn 105 [] [(V.ptr 6 0)])), (19, (V.int .i64 (z3.2.2.2.2.2.2.2))), (20, (V.bool (decide ((z3.2.2.2.2.2.2.2) < 2923))))], [(Blk.cells [(V.int .u64 (z3.1)), (V.int .u64 (z3.2.1)), (V.int .u64 (z3.2.2.1)), (V.int .u64 (z3.2.2.2.1)), (V.int .u64 (z3.2.2.2.2.1))]), (Blk.cells [(V.int .i64 (z3.2.2.2.2.2.1))]), (Blk.cells [(V.int .u64 (z3.1)), (V.int .u64 (z3.2.1)), (V.int .u64 (z3.2.2.1)), (V.int .u64 (z3.2.2.2.1)), (V.int .u64 (z3.2.2.2.2.1))]), (Blk.cells [(V.fn 42 [] [(V.ptr 1 0)])]), (Blk.cells [(V.int .i64 0)]), (Blk.cells [(V.bool false)]), (Blk.cells [(V.int .u64 (z3.1)), (V.int .u64 (z3.2.1)), (V.int .u64 (z3.2.2.1)), (V.int .u64 (z3.2.2.2.1)), (V.int .u64 (z3.2.2.2.2.1))])], []⟩))) := by kernel_rfl
theorem next_Last_l2_ok (n : Nat) : Owed next_Last_cx 39 next_Last_lp (n + 7) next_Last_l2_lp := loop_owed (fun z y h => h) fun k z3 z3q z3c y4_ K h hK next hnext => by
  refine cast (next_Last_l2_round n z3 z3q z3c K next).symm ?_
  simp only [next_Last_l2] at h
  refine req_intro rfl ?_
  refine br_both h (fun hb h => ?_) (fun hb h => ?_)
  · iterate 16 refine req_intro rfl ?_
    obtain ⟨y5, ry5, h⟩ := h
    refine ⟨y5, ry5, ?_⟩
    iterate 7 refine req_intro rfl ?_
    refine br_both h (fun hb h => ?_) (fun hb h => ?_)
    · iterate 3 refine req_intro rfl ?_
      obtain ⟨y6, ry6, h⟩ := h
      refine ⟨y6, ry6, ?_⟩
      iterate 3 refine req_intro rfl ?_
      refine br_both h (fun hb h => ?_) (fun hb h => ?_)
      · iterate 2 refine req_intro rfl ?_
        exact hnext ((z3.1), (z3.2.1), (z3.2.2.1), (z3.2.2.2.1), (z3.2.2.2.2.1), (z3.2.2.2.2.2.1), (z3.2.2.2.2.2.2.1), (IntKind.wrap .i64 ((z3.2.2.2.2.2.2.2) + 1))) _ h hK ⟨(), wk_of (Or.inr ⟨⟨Or.inl rfl, Or.inl rfl, Or.inl rfl, Or.inl rfl, Or.inl rfl, Or.inl rfl, Or.inl rfl, Or.inl rfl, trivial⟩, ⟨Or.inl rfl, Or.inl rfl, Or.inl rfl, Or.inl rfl, Or.inl rfl, Or.inl rfl, Or.inl rfl, trivial⟩, rfl, rfl, rfl⟩)⟩
      · iterate 14 refine req_intro rfl ?_
        obtain ⟨y7, ry7, h⟩ := h
        refine ⟨y7, ry7, ?_⟩
        intro c8
        iterate 4 refine req_intro rfl ?_
        obtain ⟨y18, ry18, h⟩ := h
        refine ⟨rfl, rfl, (y7, (z3.1), (z3.2.1), (z3.2.2.1), (z3.2.2.2.1), (z3.2.2.2.2.1), (z3.2.2.2.2.2.1), (IntKind.wrap .i64 ((z3.2.2.2.2.2.2.1) - (z3.2.2.2.2.2.2.2))), (((List.length y7) : Nat) : Int), 0), c8, y18, rfl, ⟨(), wk_of (Or.inr ⟨⟨Or.inl rfl, Or.inl rfl, Or.inl rfl, Or.inl rfl, Or.inl rfl, trivial⟩, ⟨Or.inl rfl, Or.inl rfl, Or.inl rfl, Or.inl rfl, Or.inl rfl, Or.inl rfl, Or.inl rfl, Or.inl rfl, Or.inl rfl, Or.inl rfl, Or.inl rfl, Or.inr (Or.inr (Or.inr ⟨rfl, rfl, rfl, rfl, rfl, rfl, rfl, ⟨Or.inl rfl, Or.inl rfl, Or.inl rfl, trivial⟩⟩)), Or.inl rfl, Or.inl rfl, Or.inl rfl, Or.inl rfl, Or.inr (Or.inr (Or.inr ⟨rfl, rfl, rfl, rfl, rfl, rfl, rfl, ⟨Or.inl rfl, Or.inl rfl, Or.inl rfl, Or.inl rfl, trivial⟩⟩)), Or.inl rfl, trivial⟩, rfl, rfl, rfl⟩)⟩, ry18, ?_⟩
        refine sume_both h (fun y18 h => ?_) (fun y18 h => ?_)
        · subst h
          refine ⟨_, ?_, hK⟩
          exact ⟨_, ⟨[(8, (V.ptr 4 0)), (9, (V.ptr 5 0))], [(Blk.cells [(V.int .u64 (z3.1)), (V.int .u64 (z3.2.1)), (V.int .u64 (z3.2.2.1)), (V.int .u64 (z3.2.2.2.1)), (V.int .u64 (z3.2.2.2.2.1))]), (Blk.cells [(V.int .i64 (z3.2.2.2.2.2.1))]), (Blk.cells [(V.int .u64 (z3.1)), (V.int .u64 (z3.2.1)), (V.int .u64 (z3.2.2.1)), (V.int .u64 (z3.2.2.2.1)), (V.int .u64 (z3.2.2.2.2.1))]), (Blk.cells [(V.fn 42 [] [(V.ptr 1 0)])]), (Blk.cells [(V.int .i64 y18)]), (Blk.cells [(V.bool true)]), (Blk.cells [(V.int .u64 (z3.1)), (V.int .u64 (z3.2.1)), (V.int .u64 (z3.2.2.1)), (V.int .u64 (z3.2.2.2.1)), (V.int .u64 (z3.2.2.2.2.1))]), Blk.dead, Blk.dead, Blk.dead, Blk.dead, Blk.dead], []⟩, ⟨[10], rfl, rfl⟩, Or.inr ⟨[0, 1, 2, 3, 4, 5, 6, 0, 0, 0, 0, 0], rfl, rfl, rfl, rfl, rfl, ⟨rfl, rfl, trivial⟩, ⟨Or.inr rfl, Or.inr rfl, Or.inr rfl, Or.inr rfl, Or.inr rfl, Or.inr rfl, Or.inr rfl, Or.inl rfl, Or.inl rfl, Or.inl rfl, Or.inl rfl, Or.inl rfl, trivial⟩, rfl, rfl⟩, Or.inr ⟨⟨Or.inl rfl, Or.inl rfl, trivial⟩, ⟨Or.inl rfl, Or.inl rfl, Or.inl rfl, Or.inl rfl, Or.inl rfl, Or.inl rfl, Or.inl rfl, Or.inl rfl, Or.inl rfl, Or.inl rfl, Or.inl rfl, Or.inl rfl, trivial⟩, rfl, rfl, rfl⟩⟩
        · iterate 2 refine req_intro rfl ?_
          exact hnext ((z3.1), (z3.2.1), (z3.2.2.1), (z3.2.2.2.1), (z3.2.2.2.2.1), (z3.2.2.2.2.2.1), (z3.2.2.2.2.2.2.1), (IntKind.wrap .i64 ((z3.2.2.2.2.2.2.2) + 1))) _ h hK ⟨(), ⟨_, _, ⟨[10], rfl, rfl⟩, Or.inl rfl, Or.inr ⟨⟨Or.inl rfl, Or.inl rfl, Or.inl rfl, Or.inl rfl, Or.inl rfl, Or.inl rfl, Or.inl rfl, Or.inl rfl, trivial⟩, ⟨Or.inl rfl, Or.inl rfl, Or.inl rfl, Or.inl rfl, Or.inl rfl, Or.inl rfl, Or.inl rfl, trivial⟩, rfl, rfl, rfl⟩⟩⟩
    · iterate 5 refine req_intro rfl ?_
      exact hnext ((z3.1), (z3.2.1), (z3.2.2.1), (z3.2.2.2.1), (z3.2.2.2.2.1), (z3.2.2.2.2.2.1), (z3.2.2.2.2.2.2.1), (IntKind.wrap .i64 ((z3.2.2.2.2.2.2.2) + 1))) _ h hK ⟨(), wk_of (Or.inr ⟨⟨Or.inl rfl, Or.inl rfl, Or.inl rfl, Or.inl rfl, Or.inl rfl, Or.inl rfl, Or.inl rfl, Or.inl rfl, trivial⟩, ⟨Or.inl rfl, Or.inl rfl, Or.inl rfl, Or.inl rfl, Or.inl rfl, Or.inl rfl, Or.inl rfl, trivial⟩, rfl, rfl, rfl⟩)⟩
  · subst h
    refine ⟨_, ?_, hK⟩
    exact ⟨_, ⟨[(8, (V.ptr 4 0)), (9, (V.ptr 5 0))], [(Blk.cells [(V.int .u64 (z3.1)), (V.int .u64 (z3.2.1)), (V.int .u64 (z3.2.2.1)), (V.int .u64 (z3.2.2.2.1)), (V.int .u64 (z3.2.2.2.2.1))]), (Blk.cells [(V.int .i64 (z3.2.2.2.2.2.1))]), (Blk.cells [(V.int .u64 (z3.1)), (V.int .u64 (z3.2.1)), (V.int .u64 (z3.2.2.1)), (V.int .u64 (z3.2.2.2.1)), (V.int .u64 (z3.2.2.2.2.1))]), (Blk.cells [(V.fn 42 [] [(V.ptr 1 0)])]), (Blk.cells [(V.int .i64 0)]), (Blk.cells [(V.bool false)]), (Blk.cells [(V.int .u64 (z3.1)), (V.int .u64 (z3.2.1)), (V.int .u64 (z3.2.2.1)), (V.int .u64 (z3.2.2.2.1)), (V.int .u64 (z3.2.2.2.2.1))]), Blk.dead, Blk.dead, Blk.dead, Blk.dead, Blk.dead], []⟩, ⟨[], rfl, rfl⟩, Or.inr ⟨[0, 1, 2, 3, 4, 5, 6, 0, 0, 0, 0, 0], rfl, rfl, rfl, rfl, rfl, ⟨rfl, rfl, trivial⟩, ⟨Or.inr rfl, Or.inr rfl, Or.inr rfl, Or.inr rfl, Or.inr rfl, Or.inr rfl, Or.inr rfl, Or.inl rfl, Or.inl rfl, Or.inl rfl, Or.inl rfl, Or.inl rfl, trivial⟩, rfl, rfl⟩, Or.inr ⟨⟨Or.inl rfl, Or.inl rfl, trivial⟩, ⟨Or.inl rfl, Or.inl rfl, Or.inl rfl, Or.inl rfl, Or.inl rfl, Or.inl rfl, Or.inl rfl, Or.inl rfl, Or.inl rfl, Or.inl rfl, Or.inl rfl, Or.inl rfl, trivial⟩, rfl, rfl, rfl⟩⟩
theorem next_Last_lpok : LpOk next_Last_cx okT next_Last_lp := LpOk_tab ⟨next_Last_l0_ok, next_Last_l1_ok, next_Last_l2_ok, trivial⟩
def next_Last_R (a0 : Int) (a1 : Int) (a2 : Int) (a3 : Int) (a4 : Int) (a5 : Int) (y : Int × Bool) : Prop :=
  (∃ y1 : Int, (next_of_R a5 y1) ∧ (∃ y2 : Int, (cron_Check_R a0 a1 a2 a3 a4 y2) ∧ (br (y2 != 0) ((0, false) = y) (∃ y20 : next_Last_l2_Y, next_Last_l2_L (a0, a1, a2, a3, a4, a5, y1, 0) y20 ∧ (((y20.1), (y20.2)) = y)))))
theorem next_Last_tree (a0 : Int) (a1 : Int) (a2 : Int) (a3 : Int) (a4 : Int) (a5 : Int) (y : Int × Bool) : acall next_Last_cx okT next_Last_lp 60 (.fn 18 [] []) [(V.agg [(V.int .u64 a0), (V.int .u64 a1), (V.int .u64 a2), (V.int .u64 a3), (V.int .u64 a4)]), (V.int .i64 a5)] [] (leafK (.tup (.cons (.int .i64) (.one .bool))) y) =
    (req true (req true ((req true ((req true ((req true (∃ y1 : Int, (next_of_R a5 y1) ∧ (req true (req true (req true (∃ y2 : Int, (cron_Check_R a0 a1 a2 a3 a4 y2) ∧ (req true (br (y2 != 0) ((req true (req true (req true (req true (req true ((0, false) = y)))))) ∧ (req true (req true (req true (req true (req true ((0, false) = y))))))) (req true (req true (req true (req true (req true (req true (((none : Option Nat) = (none : Option Nat)) ∧ (next_Last_l2_body = next_Last_l2_body) ∧ ∃ z19 : next_Last_l2_Z, ∃ z19q : next_Last_l2_Q, ∃ y20 : next_Last_l2_Y, (7 = 7) ∧ (∃ zc : next_Last_l2_C, wk 7 ⟨[(0, (V.agg [(V.int .u64 a0), (V.int .u64 a1), (V.int .u64 a2), (V.int .u64 a3), (V.int .u64 a4)])), (1, (V.int .i64 y1)), (2, (V.bool true)), (3, (V.fn 42 [] [(V.ptr 1 0)])), (4, (V.ptr 2 0)), (7, (V.ptr 3 0)), (8, (V.ptr 4 0)), (9, (V.ptr 5 0)), (14, (V.agg [(V.int .u64 a0), (V.int .u64 a1), (V.int .u64 a2), (V.int .u64 a3), (V.int .u64 a4)])), (15, (V.int .i64 y2)), (16, (V.bool (y2 != 0))), (17, (V.agg [(V.int .u64 a0), (V.int .u64 a1), (V.int .u64 a2), (V.int .u64 a3), (V.int .u64 a4)])), (18, (V.fn 105 [] [(V.ptr 6 0)])), (10, (V.fn 105 [] [(V.ptr 6 0)])), (19, (V.int .i64 0))], [(Blk.cells [(V.int .u64 a0), (V.int .u64 a1), (V.int .u64 a2), (V.int .u64 a3), (V.int .u64 a4)]), (Blk.cells [(V.int .i64 a5)]), (Blk.cells [(V.int .u64 a0), (V.int .u64 a1), (V.int .u64 a2), (V.int .u64 a3), (V.int .u64 a4)]), (Blk.cells [(V.fn 42 [] [(V.ptr 1 0)])]), (Blk.cells [(V.int .i64 0)]), (Blk.cells [(V.bool false)]), (Blk.cells [(V.int .u64 a0), (V.int .u64 a1), (V.int .u64 a2), (V.int .u64 a3), (V.int .u64 a4)])], []⟩ (next_Last_l2_st z19 z19q zc)) ∧ (∃ k, next_Last_l2 k z19 y20) ∧ ((req true ((req true ((req true (req true (req true (req true (req true (((y20.1), (y20.2)) = y)))))) ∧ (req true (req true (req true (req true (req true (((y20.1), (y20.2)) = y)))))))) ∧ (req true ((req true (req true (req true (req true (req true (((y20.1), (y20.2)) = y)))))) ∧ (req true (req true (req true (req true (req true (((y20.1), (y20.2)) = y)))))))))) ∧ (req true (req true ((req true (req true (req true (req true (req true (((y20.1), (y20.2)) = y)))))) ∧ (req true (req true (req true (req true (req true (((y20.1), (y20.2)) = y))))))))))))))))))))))))) ∧ (req true (req true (∃ y21 : Int, (next_of_R a5 y21) ∧ (req true (req true (∃ y22 : Int, (cron_Check_R a0 a1 a2 a3 a4 y22) ∧ (req true (br (y22 != 0) ((req true (req true (req true (req true (req true ((0, false) = y)))))) ∧ (req true (req true (req true (req true (req true ((0, false) = y))))))) (req true (req true (req true (req true (req true (req true (((none : Option Nat) = (none : Option Nat)) ∧ (next_Last_l2_body = next_Last_l2_body) ∧ ∃ z23 : next_Last_l2_Z, ∃ z23q : next_Last_l2_Q, ∃ y24 : next_Last_l2_Y, (7 = 7) ∧ (∃ zc : next_Last_l2_C, wk 7 ⟨[(0, (V.agg [(V.int .u64 a0), (V.int .u64 a1), (V.int .u64 a2), (V.int .u64 a3), (V.int .u64 a4)])), (1, (V.int .i64 y21)), (2, (V.bool true)), (3, (V.fn 42 [] [(V.ptr 1 0)])), (4, (V.ptr 2 0)), (7, (V.ptr 3 0)), (8, (V.ptr 4 0)), (9, (V.ptr 5 0)), (14, (V.agg [(V.int .u64 a0), (V.int .u64 a1), (V.int .u64 a2), (V.int .u64 a3), (V.int .u64 a4)])), (15, (V.int .i64 y22)), (16, (V.bool (y22 != 0))), (17, (V.agg [(V.int .u64 a0), (V.int .u64 a1), (V.int .u64 a2), (V.int .u64 a3), (V.int .u64 a4)])), (18, (V.fn 105 [] [(V.ptr 6 0)])), (10, (V.fn 105 [] [(V.ptr 6 0)])), (19, (V.int .i64 0))], [(Blk.cells [(V.int .u64 a0), (V.int .u64 a1), (V.int .u64 a2), (V.int .u64 a3), (V.int .u64 a4)]), (Blk.cells [(V.int .i64 a5)]), (Blk.cells [(V.int .u64 a0), (V.int .u64 a1), (V.int .u64 a2), (V.int .u64 a3), (V.int .u64 a4)]), (Blk.cells [(V.fn 42 [] [(V.ptr 1 0)])]), (Blk.cells [(V.int .i64 0)]), (Blk.cells [(V.bool false)]), (Blk.cells [(V.int .u64 a0), (V.int .u64 a1), (V.int .u64 a2), (V.int .u64 a3), (V.int .u64 a4)])], []⟩ (next_Last_l2_st z23 z23q zc)) ∧ (∃ k, next_Last_l2 k z23 y24) ∧ ((req true ((req true ((req true (req true (req true (req true (req true (((y24.1), (y24.2)) = y)))))) ∧ (req true (req true (req true (req true (req true (((y24.1), (y24.2)) = y)))))))) ∧ (req true ((req true (req true (req true (req true (req true (((y24.1), (y24.2)) = y)))))) ∧ (req true (req true (req true (req true (req true (((y24.1), (y24.2)) = y)))))))))) ∧ (req true (req true ((req true (req true (req true (req true (req true (((y24.1), (y24.2)) = y)))))) ∧ (req true (req true (req true (req true (req true (((y24.1), (y24.2)) = y))))))))))))))))))))))))))) ∧ (req true (req true (req true (∃ y25 : Int, (next_of_R a5 y25) ∧ (req true (req true (∃ y26 : Int, (cron_Check_R a0 a1 a2 a3 a4 y26) ∧ (req true (br (y26 != 0) ((req true (req true (req true (req true (req true ((0, false) = y)))))) ∧ (req true (req true (req true (req true (req true ((0, false) = y))))))) (req true (req true (req true (req true (req true (req true (((none : Option Nat) = (none : Option Nat)) ∧ (next_Last_l2_body = next_Last_l2_body) ∧ ∃ z27 : next_Last_l2_Z, ∃ z27q : next_Last_l2_Q, ∃ y28 : next_Last_l2_Y, (7 = 7) ∧ (∃ zc : next_Last_l2_C, wk 7 ⟨[(0, (V.agg [(V.int .u64 a0), (V.int .u64 a1), (V.int .u64 a2), (V.int .u64 a3), (V.int .u64 a4)])), (1, (V.int .i64 y25)), (2, (V.bool true)), (3, (V.fn 42 [] [(V.ptr 1 0)])), (4, (V.ptr 2 0)), (7, (V.ptr 3 0)), (8, (V.ptr 4 0)), (9, (V.ptr 5 0)), (14, (V.agg [(V.int .u64 a0), (V.int .u64 a1), (V.int .u64 a2), (V.int .u64 a3), (V.int .u64 a4)])), (15, (V.int .i64 y26)), (16, (V.bool (y26 != 0))), (17, (V.agg [(V.int .u64 a0), (V.int .u64 a1), (V.int .u64 a2), (V.int .u64 a3), (V.int .u64 a4)])), (18, (V.fn 105 [] [(V.ptr 6 0)])), (10, (V.fn 105 [] [(V.ptr 6 0)])), (19, (V.int .i64 0))], [(Blk.cells [(V.int .u64 a0), (V.int .u64 a1), (V.int .u64 a2), (V.int .u64 a3), (V.int .u64 a4)]), (Blk.cells [(V.int .i64 a5)]), (Blk.cells [(V.int .u64 a0), (V.int .u64 a1), (V.int .u64 a2), (V.int .u64 a3), (V.int .u64 a4)]), (Blk.cells [(V.fn 42 [] [(V.ptr 1 0)])]), (Blk.cells [(V.int .i64 0)]), (Blk.cells [(V.bool false)]), (Blk.cells [(V.int .u64 a0), (V.int .u64 a1), (V.int .u64 a2), (V.int .u64 a3), (V.int .u64 a4)])], []⟩ (next_Last_l2_st z27 z27q zc)) ∧ (∃ k, next_Last_l2 k z27 y28) ∧ ((req true ((req true ((req true (req true (req true (req true (req true (((y28.1), (y28.2)) = y)))))) ∧ (req true (req true (req true (req true (req true (((y28.1), (y28.2)) = y)))))))) ∧ (req true ((req true (req true (req true (req true (req true (((y28.1), (y28.2)) = y)))))) ∧ (req true (req true (req true (req true (req true (((y28.1), (y28.2)) = y)))))))))) ∧ (req true (req true ((req true (req true (req true (req true (req true (((y28.1), (y28.2)) = y)))))) ∧ (req true (req true (req true (req true (req true (((y28.1), (y28.2)) = y)))))))))))))))))))))))))))) ∧ (req true ((req true ((req true (∃ y29 : Int, (next_of_R a5 y29) ∧ (req true (req true (req true (∃ y30 : Int, (cron_Check_R a0 a1 a2 a3 a4 y30) ∧ (req true (br (y30 != 0) ((req true (req true (req true (req true (req true ((0, false) = y)))))) ∧ (req true (req true (req true (req true (req true ((0, false) = y))))))) (req true (req true (req true (req true (req true (req true (((none : Option Nat) = (none : Option Nat)) ∧ (next_Last_l2_body = next_Last_l2_body) ∧ ∃ z31 : next_Last_l2_Z, ∃ z31q : next_Last_l2_Q, ∃ y32 : next_Last_l2_Y, (7 = 7) ∧ (∃ zc : next_Last_l2_C, wk 7 ⟨[(0, (V.agg [(V.int .u64 a0), (V.int .u64 a1), (V.int .u64 a2), (V.int .u64 a3), (V.int .u64 a4)])), (1, (V.int .i64 y29)), (2, (V.bool true)), (3, (V.fn 42 [] [(V.ptr 1 0)])), (4, (V.ptr 2 0)), (7, (V.ptr 3 0)), (8, (V.ptr 4 0)), (9, (V.ptr 5 0)), (14, (V.agg [(V.int .u64 a0), (V.int .u64 a1), (V.int .u64 a2), (V.int .u64 a3), (V.int .u64 a4)])), (15, (V.int .i64 y30)), (16, (V.bool (y30 != 0))), (17, (V.agg [(V.int .u64 a0), (V.int .u64 a1), (V.int .u64 a2), (V.int .u64 a3), (V.int .u64 a4)])), (18, (V.fn 105 [] [(V.ptr 6 0)])), (10, (V.fn 105 [] [(V.ptr 6 0)])), (19, (V.int .i64 0))], [(Blk.cells [(V.int .u64 a0), (V.int .u64 a1), (V.int .u64 a2), (V.int .u64 a3), (V.int .u64 a4)]), (Blk.cells [(V.int .i64 a5)]), (Blk.cells [(V.int .u64 a0), (V.int .u64 a1), (V.int .u64 a2), (V.int .u64 a3), (V.int .u64 a4)]), (Blk.cells [(V.fn 42 [] [(V.ptr 1 0)])]), (Blk.cells [(V.int .i64 0)]), (Blk.cells [(V.bool false)]), (Blk.cells [(V.int .u64 a0), (V.int .u64 a1), (V.int .u64 a2), (V.int .u64 a3), (V.int .u64 a4)])], []⟩ (next_Last_l2_st z31 z31q zc)) ∧ (∃ k, next_Last_l2 k z31 y32) ∧ ((req true ((req true ((req true (req true (req true (req true (req true (((y32.1), (y32.2)) = y)))))) ∧ (req true (req true (req true (req true (req true (((y32.1), (y32.2)) = y)))))))) ∧ (req true ((req true (req true (req true (req true (req true (((y32.1), (y32.2)) = y)))))) ∧ (req true (req true (req true (req true (req true (((y32.1), (y32.2)) = y)))))))))) ∧ (req true (req true ((req true (req true (req true (req true (req true (((y32.1), (y32.2)) = y)))))) ∧ (req true (req true (req true (req true (req true (((y32.1), (y32.2)) = y))))))))))))))))))))))))) ∧ (req true (req true (∃ y33 : Int, (next_of_R a5 y33) ∧ (req true (req true (∃ y34 : Int, (cron_Check_R a0 a1 a2 a3 a4 y34) ∧ (req true (br (y34 != 0) ((req true (req true (req true (req true (req true ((0, false) = y)))))) ∧ (req true (req true (req true (req true (req true ((0, false) = y))))))) (req true (req true (req true (req true (req true (req true (((none : Option Nat) = (none : Option Nat)) ∧ (next_Last_l2_body = next_Last_l2_body) ∧ ∃ z35 : next_Last_l2_Z, ∃ z35q : next_Last_l2_Q, ∃ y36 : next_Last_l2_Y, (7 = 7) ∧ (∃ zc : next_Last_l2_C, wk 7 ⟨[(0, (V.agg [(V.int .u64 a0), (V.int .u64 a1), (V.int .u64 a2), (V.int .u64 a3), (V.int .u64 a4)])), (1, (V.int .i64 y33)), (2, (V.bool true)), (3, (V.fn 42 [] [(V.ptr 1 0)])), (4, (V.ptr 2 0)), (7, (V.ptr 3 0)), (8, (V.ptr 4 0)), (9, (V.ptr 5 0)), (14, (V.agg [(V.int .u64 a0), (V.int .u64 a1), (V.int .u64 a2), (V.int .u64 a3), (V.int .u64 a4)])), (15, (V.int .i64 y34)), (16, (V.bool (y34 != 0))), (17, (V.agg [(V.int .u64 a0), (V.int .u64 a1), (V.int .u64 a2), (V.int .u64 a3), (V.int .u64 a4)])), (18, (V.fn 105 [] [(V.ptr 6 0)])), (10, (V.fn 105 [] [(V.ptr 6 0)])), (19, (V.int .i64 0))], [(Blk.cells [(V.int .u64 a0), (V.int .u64 a1), (V.int .u64 a2), (V.int .u64 a3), (V.int .u64 a4)]), (Blk.cells [(V.int .i64 a5)]), (Blk.cells [(V.int .u64 a0), (V.int .u64 a1), (V.int .u64 a2), (V.int .u64 a3), (V.int .u64 a4)]), (Blk.cells [(V.fn 42 [] [(V.ptr 1 0)])]), (Blk.cells [(V.int .i64 0)]), (Blk.cells [(V.bool false)]), (Blk.cells [(V.int .u64 a0), (V.int .u64 a1), (V.int .u64 a2), (V.int .u64 a3), (V.int .u64 a4)])], []⟩ (next_Last_l2_st z35 z35q zc)) ∧ (∃ k, next_Last_l2 k z35 y36) ∧ ((req true ((req true ((req true (req true (req true (req true (req true (((y36.1), (y36.2)) = y)))))) ∧ (req true (req true (req true (req true (req true (((y36.1), (y36.2)) = y)))))))) ∧ (req true ((req true (req true (req true (req true (req true (((y36.1), (y36.2)) = y)))))) ∧ (req true (req true (req true (req true (req true (((y36.1), (y36.2)) = y)))))))))) ∧ (req true (req true ((req true (req true (req true (req true (req true (((y36.1), (y36.2)) = y)))))) ∧ (req true (req true (req true (req true (req true (((y36.1), (y36.2)) = y))))))))))))))))))))))))))) ∧ (req true (∃ y37 : Int, (next_of_R a5 y37) ∧ ((req true (req true (req true (req true (∃ y38 : Int, (cron_Check_R a0 a1 a2 a3 a4 y38) ∧ (req true (br (y38 != 0) ((req true (req true (req true (req true (req true ((0, false) = y)))))) ∧ (req true (req true (req true (req true (req true ((0, false) = y))))))) (req true (req true (req true (req true (req true (req true (((none : Option Nat) = (none : Option Nat)) ∧ (next_Last_l2_body = next_Last_l2_body) ∧ ∃ z39 : next_Last_l2_Z, ∃ z39q : next_Last_l2_Q, ∃ y40 : next_Last_l2_Y, (7 = 7) ∧ (∃ zc : next_Last_l2_C, wk 7 ⟨[(0, (V.agg [(V.int .u64 a0), (V.int .u64 a1), (V.int .u64 a2), (V.int .u64 a3), (V.int .u64 a4)])), (1, (V.int .i64 y37)), (2, (V.bool true)), (3, (V.fn 42 [] [(V.ptr 1 0)])), (4, (V.ptr 2 0)), (7, (V.ptr 3 0)), (8, (V.ptr 4 0)), (9, (V.ptr 5 0)), (14, (V.agg [(V.int .u64 a0), (V.int .u64 a1), (V.int .u64 a2), (V.int .u64 a3), (V.int .u64 a4)])), (15, (V.int .i64 y38)), (16, (V.bool (y38 != 0))), (17, (V.agg [(V.int .u64 a0), (V.int .u64 a1), (V.int .u64 a2), (V.int .u64 a3), (V.int .u64 a4)])), (18, (V.fn 105 [] [(V.ptr 6 0)])), (10, (V.fn 105 [] [(V.ptr 6 0)])), (19, (V.int .i64 0))], [(Blk.cells [(V.int .u64 a0), (V.int .u64 a1), (V.int .u64 a2), (V.int .u64 a3), (V.int .u64 a4)]), (Blk.cells [(V.int .i64 a5)]), (Blk.cells [(V.int .u64 a0), (V.int .u64 a1), (V.int .u64 a2), (V.int .u64 a3), (V.int .u64 a4)]), (Blk.cells [(V.fn 42 [] [(V.ptr 1 0)])]), (Blk.cells [(V.int .i64 0)]), (Blk.cells [(V.bool false)]), (Blk.cells [(V.int .u64 a0), (V.int .u64 a1), (V.int .u64 a2), (V.int .u64 a3), (V.int .u64 a4)])], []⟩ (next_Last_l2_st z39 z39q zc)) ∧ (∃ k, next_Last_l2 k z39 y40) ∧ ((req true ((req true ((req true (req true (req true (req true (req true (((y40.1), (y40.2)) = y)))))) ∧ (req true (req true (req true (req true (req true (((y40.1), (y40.2)) = y)))))))) ∧ (req true ((req true (req true (req true (req true (req true (((y40.1), (y40.2)) = y)))))) ∧ (req true (req true (req true (req true (req true (((y40.1), (y40.2)) = y)))))))))) ∧ (req true (req true ((req true (req true (req true (req true (req true (((y40.1), (y40.2)) = y)))))) ∧ (req true (req true (req true (req true (req true (((y40.1), (y40.2)) = y)))))))))))))))))))))))) ∧ (req true (req true (req true (req true (∃ y41 : Int, (cron_Check_R a0 a1 a2 a3 a4 y41) ∧ (req true (br (y41 != 0) ((req true (req true (req true (req true (req true ((0, false) = y)))))) ∧ (req true (req true (req true (req true (req true ((0, false) = y))))))) (req true (req true (req true (req true (req true (req true (((none : Option Nat) = (none : Option Nat)) ∧ (next_Last_l2_body = next_Last_l2_body) ∧ ∃ z42 : next_Last_l2_Z, ∃ z42q : next_Last_l2_Q, ∃ y43 : next_Last_l2_Y, (7 = 7) ∧ (∃ zc : next_Last_l2_C, wk 7 ⟨[(0, (V.agg [(V.int .u64 a0), (V.int .u64 a1), (V.int .u64 a2), (V.int .u64 a3), (V.int .u64 a4)])), (1, (V.int .i64 y37)), (2, (V.bool true)), (3, (V.fn 42 [] [(V.ptr 1 0)])), (4, (V.ptr 2 0)), (7, (V.ptr 3 0)), (8, (V.ptr 4 0)), (9, (V.ptr 5 0)), (14, (V.agg [(V.int .u64 a0), (V.int .u64 a1), (V.int .u64 a2), (V.int .u64 a3), (V.int .u64 a4)])), (15, (V.int .i64 y41)), (16, (V.bool (y41 != 0))), (17, (V.agg [(V.int .u64 a0), (V.int .u64 a1), (V.int .u64 a2), (V.int .u64 a3), (V.int .u64 a4)])), (18, (V.fn 105 [] [(V.ptr 6 0)])), (10, (V.fn 105 [] [(V.ptr 6 0)])), (19, (V.int .i64 0))], [(Blk.cells [(V.int .u64 a0), (V.int .u64 a1), (V.int .u64 a2), (V.int .u64 a3), (V.int .u64 a4)]), (Blk.cells [(V.int .i64 a5)]), (Blk.cells [(V.int .u64 a0), (V.int .u64 a1), (V.int .u64 a2), (V.int .u64 a3), (V.int .u64 a4)]), (Blk.cells [(V.fn 42 [] [(V.ptr 1 0)])]), (Blk.cells [(V.int .i64 0)]), (Blk.cells [(V.bool false)]), (Blk.cells [(V.int .u64 a0), (V.int .u64 a1), (V.int .u64 a2), (V.int .u64 a3), (V.int .u64 a4)])], []⟩ (next_Last_l2_st z42 z42q zc)) ∧ (∃ k, next_Last_l2 k z42 y43) ∧ ((req true ((req true ((req true (req true (req true (req true (req true (((y43.1), (y43.2)) = y)))))) ∧ (req true (req true (req true (req true (req true (((y43.1), (y43.2)) = y)))))))) ∧ (req true ((req true (req true (req true (req true (req true (((y43.1), (y43.2)) = y)))))) ∧ (req true (req true (req true (req true (req true (((y43.1), (y43.2)) = y)))))))))) ∧ (req true (req true ((req true (req true (req true (req true (req true (((y43.1), (y43.2)) = y)))))) ∧ (req true (req true (req true (req true (req true (((y43.1), (y43.2)) = y))))))))))))))))))))))))))) ∧ (req true ((req true (req true (∃ y44 : Int, (next_of_R a5 y44) ∧ (req true (req true (∃ y45 : Int, (cron_Check_R a0 a1 a2 a3 a4 y45) ∧ (req true (br (y45 != 0) ((req true (req true (req true (req true (req true ((0, false) = y)))))) ∧ (req true (req true (req true (req true (req true ((0, false) = y))))))) (req true (req true (req true (req true (req true (req true (((none : Option Nat) = (none : Option Nat)) ∧ (next_Last_l2_body = next_Last_l2_body) ∧ ∃ z46 : next_Last_l2_Z, ∃ z46q : next_Last_l2_Q, ∃ y47 : next_Last_l2_Y, (7 = 7) ∧ (∃ zc : next_Last_l2_C, wk 7 ⟨[(0, (V.agg [(V.int .u64 a0), (V.int .u64 a1), (V.int .u64 a2), (V.int .u64 a3), (V.int .u64 a4)])), (1, (V.int .i64 y44)), (2, (V.bool true)), (3, (V.fn 42 [] [(V.ptr 1 0)])), (4, (V.ptr 2 0)), (7, (V.ptr 3 0)), (8, (V.ptr 4 0)), (9, (V.ptr 5 0)), (14, (V.agg [(V.int .u64 a0), (V.int .u64 a1), (V.int .u64 a2), (V.int .u64 a3), (V.int .u64 a4)])), (15, (V.int .i64 y45)), (16, (V.bool (y45 != 0))), (17, (V.agg [(V.int .u64 a0), (V.int .u64 a1), (V.int .u64 a2), (V.int .u64 a3), (V.int .u64 a4)])), (18, (V.fn 105 [] [(V.ptr 6 0)])), (10, (V.fn 105 [] [(V.ptr 6 0)])), (19, (V.int .i64 0))], [(Blk.cells [(V.int .u64 a0), (V.int .u64 a1), (V.int .u64 a2), (V.int .u64 a3), (V.int .u64 a4)]), (Blk.cells [(V.int .i64 a5)]), (Blk.cells [(V.int .u64 a0), (V.int .u64 a1), (V.int .u64 a2), (V.int .u64 a3), (V.int .u64 a4)]), (Blk.cells [(V.fn 42 [] [(V.ptr 1 0)])]), (Blk.cells [(V.int .i64 0)]), (Blk.cells [(V.bool false)]), (Blk.cells [(V.int .u64 a0), (V.int .u64 a1), (V.int .u64 a2), (V.int .u64 a3), (V.int .u64 a4)])], []⟩ (next_Last_l2_st z46 z46q zc)) ∧ (∃ k, next_Last_l2 k z46 y47) ∧ ((req true ((req true ((req true (req true (req true (req true (req true (((y47.1), (y47.2)) = y)))))) ∧ (req true (req true (req true (req true (req true (((y47.1), (y47.2)) = y)))))))) ∧ (req true ((req true (req true (req true (req true (req true (((y47.1), (y47.2)) = y)))))) ∧ (req true (req true (req true (req true (req true (((y47.1), (y47.2)) = y)))))))))) ∧ (req true (req true ((req true (req true (req true (req true (req true (((y47.1), (y47.2)) = y)))))) ∧ (req true (req true (req true (req true (req true (((y47.1), (y47.2)) = y))))))))))))))))))))))))) ∧ (req true (∃ y48 : Int, (next_of_R a5 y48) ∧ (req true (req true (req true (∃ y49 : Int, (cron_Check_R a0 a1 a2 a3 a4 y49) ∧ (req true (br (y49 != 0) ((req true (req true (req true (req true (req true ((0, false) = y)))))) ∧ (req true (req true (req true (req true (req true ((0, false) = y))))))) (req true (req true (req true (req true (req true (req true (((none : Option Nat) = (none : Option Nat)) ∧ (next_Last_l2_body = next_Last_l2_body) ∧ ∃ z50 : next_Last_l2_Z, ∃ z50q : next_Last_l2_Q, ∃ y51 : next_Last_l2_Y, (7 = 7) ∧ (∃ zc : next_Last_l2_C, wk 7 ⟨[(0, (V.agg [(V.int .u64 a0), (V.int .u64 a1), (V.int .u64 a2), (V.int .u64 a3), (V.int .u64 a4)])), (1, (V.int .i64 y48)), (2, (V.bool true)), (3, (V.fn 42 [] [(V.ptr 1 0)])), (4, (V.ptr 2 0)), (7, (V.ptr 3 0)), (8, (V.ptr 4 0)), (9, (V.ptr 5 0)), (14, (V.agg [(V.int .u64 a0), (V.int .u64 a1), (V.int .u64 a2), (V.int .u64 a3), (V.int .u64 a4)])), (15, (V.int .i64 y49)), (16, (V.bool (y49 != 0))), (17, (V.agg [(V.int .u64 a0), (V.int .u64 a1), (V.int .u64 a2), (V.int .u64 a3), (V.int .u64 a4)])), (18, (V.fn 105 [] [(V.ptr 6 0)])), (10, (V.fn 105 [] [(V.ptr 6 0)])), (19, (V.int .i64 0))], [(Blk.cells [(V.int .u64 a0), (V.int .u64 a1), (V.int .u64 a2), (V.int .u64 a3), (V.int .u64 a4)]), (Blk.cells [(V.int .i64 a5)]), (Blk.cells [(V.int .u64 a0), (V.int .u64 a1), (V.int .u64 a2), (V.int .u64 a3), (V.int .u64 a4)]), (Blk.cells [(V.fn 42 [] [(V.ptr 1 0)])]), (Blk.cells [(V.int .i64 0)]), (Blk.cells [(V.bool false)]), (Blk.cells [(V.int .u64 a0), (V.int .u64 a1), (V.int .u64 a2), (V.int .u64 a3), (V.int .u64 a4)])], []⟩ (next_Last_l2_st z50 z50q zc)) ∧ (∃ k, next_Last_l2 k z50 y51) ∧ ((req true ((req true ((req true (req true (req true (req true (req true (((y51.1), (y51.2)) = y)))))) ∧ (req true (req true (req true (req true (req true (((y51.1), (y51.2)) = y)))))))) ∧ (req true ((req true (req true (req true (req true (req true (((y51.1), (y51.2)) = y)))))) ∧ (req true (req true (req true (req true (req true (((y51.1), (y51.2)) = y)))))))))) ∧ (req true (req true ((req true (req true (req true (req true (req true (((y51.1), (y51.2)) = y)))))) ∧ (req true (req true (req true (req true (req true (((y51.1), (y51.2)) = y))))))))))))))))))))))))))))) ∧ (req true ((req true (req true (req true (∃ y52 : Int, (next_of_R a5 y52) ∧ (req true (req true (∃ y53 : Int, (cron_Check_R a0 a1 a2 a3 a4 y53) ∧ (req true (br (y53 != 0) ((req true (req true (req true (req true (req true ((0, false) = y)))))) ∧ (req true (req true (req true (req true (req true ((0, false) = y))))))) (req true (req true (req true (req true (req true (req true (((none : Option Nat) = (none : Option Nat)) ∧ (next_Last_l2_body = next_Last_l2_body) ∧ ∃ z54 : next_Last_l2_Z, ∃ z54q : next_Last_l2_Q, ∃ y55 : next_Last_l2_Y, (7 = 7) ∧ (∃ zc : next_Last_l2_C, wk 7 ⟨[(0, (V.agg [(V.int .u64 a0), (V.int .u64 a1), (V.int .u64 a2), (V.int .u64 a3), (V.int .u64 a4)])), (1, (V.int .i64 y52)), (2, (V.bool true)), (3, (V.fn 42 [] [(V.ptr 1 0)])), (4, (V.ptr 2 0)), (7, (V.ptr 3 0)), (8, (V.ptr 4 0)), (9, (V.ptr 5 0)), (14, (V.agg [(V.int .u64 a0), (V.int .u64 a1), (V.int .u64 a2), (V.int .u64 a3), (V.int .u64 a4)])), (15, (V.int .i64 y53)), (16, (V.bool (y53 != 0))), (17, (V.agg [(V.int .u64 a0), (V.int .u64 a1), (V.int .u64 a2), (V.int .u64 a3), (V.int .u64 a4)])), (18, (V.fn 105 [] [(V.ptr 6 0)])), (10, (V.fn 105 [] [(V.ptr 6 0)])), (19, (V.int .i64 0))], [(Blk.cells [(V.int .u64 a0), (V.int .u64 a1), (V.int .u64 a2), (V.int .u64 a3), (V.int .u64 a4)]), (Blk.cells [(V.int .i64 a5)]), (Blk.cells [(V.int .u64 a0), (V.int .u64 a1), (V.int .u64 a2), (V.int .u64 a3), (V.int .u64 a4)]), (Blk.cells [(V.fn 42 [] [(V.ptr 1 0)])]), (Blk.cells [(V.int .i64 0)]), (Blk.cells [(V.bool false)]), (Blk.cells [(V.int .u64 a0), (V.int .u64 a1), (V.int .u64 a2), (V.int .u64 a3), (V.int .u64 a4)])], []⟩ (next_Last_l2_st z54 z54q zc)) ∧ (∃ k, next_Last_l2 k z54 y55) ∧ ((req true ((req true ((req true (req true (req true (req true (req true (((y55.1), (y55.2)) = y)))))) ∧ (req true (req true (req true (req true (req true (((y55.1), (y55.2)) = y)))))))) ∧ (req true ((req true (req true (req true (req true (req true (((y55.1), (y55.2)) = y)))))) ∧ (req true (req true (req true (req true (req true (((y55.1), (y55.2)) = y)))))))))) ∧ (req true (req true ((req true (req true (req true (req true (req true (((y55.1), (y55.2)) = y)))))) ∧ (req true (req true (req true (req true (req true (((y55.1), (y55.2)) = y)))))))))))))))))))))))))) ∧ (req true ((req true (req true (∃ y56 : Int, (next_of_R a5 y56) ∧ (req true (req true (∃ y57 : Int, (cron_Check_R a0 a1 a2 a3 a4 y57) ∧ (req true (br (y57 != 0) ((req true (req true (req true (req true (req true ((0, false) = y)))))) ∧ (req true (req true (req true (req true (req true ((0, false) = y))))))) (req true (req true (req true (req true (req true (req true (((none : Option Nat) = (none : Option Nat)) ∧ (next_Last_l2_body = next_Last_l2_body) ∧ ∃ z58 : next_Last_l2_Z, ∃ z58q : next_Last_l2_Q, ∃ y59 : next_Last_l2_Y, (7 = 7) ∧ (∃ zc : next_Last_l2_C, wk 7 ⟨[(0, (V.agg [(V.int .u64 a0), (V.int .u64 a1), (V.int .u64 a2), (V.int .u64 a3), (V.int .u64 a4)])), (1, (V.int .i64 y56)), (2, (V.bool true)), (3, (V.fn 42 [] [(V.ptr 1 0)])), (4, (V.ptr 2 0)), (7, (V.ptr 3 0)), (8, (V.ptr 4 0)), (9, (V.ptr 5 0)), (14, (V.agg [(V.int .u64 a0), (V.int .u64 a1), (V.int .u64 a2), (V.int .u64 a3), (V.int .u64 a4)])), (15, (V.int .i64 y57)), (16, (V.bool (y57 != 0))), (17, (V.agg [(V.int .u64 a0), (V.int .u64 a1), (V.int .u64 a2), (V.int .u64 a3), (V.int .u64 a4)])), (18, (V.fn 105 [] [(V.ptr 6 0)])), (10, (V.fn 105 [] [(V.ptr 6 0)])), (19, (V.int .i64 0))], [(Blk.cells [(V.int .u64 a0), (V.int .u64 a1), (V.int .u64 a2), (V.int .u64 a3), (V.int .u64 a4)]), (Blk.cells [(V.int .i64 a5)]), (Blk.cells [(V.int .u64 a0), (V.int .u64 a1), (V.int .u64 a2), (V.int .u64 a3), (V.int .u64 a4)]), (Blk.cells [(V.fn 42 [] [(V.ptr 1 0)])]), (Blk.cells [(V.int .i64 0)]), (Blk.cells [(V.bool false)]), (Blk.cells [(V.int .u64 a0), (V.int .u64 a1), (V.int .u64 a2), (V.int .u64 a3), (V.int .u64 a4)])], []⟩ (next_Last_l2_st z58 z58q zc)) ∧ (∃ k, next_Last_l2 k z58 y59) ∧ ((req true ((req true ((req true (req true (req true (req true (req true (((y59.1), (y59.2)) = y)))))) ∧ (req true (req true (req true (req true (req true (((y59.1), (y59.2)) = y)))))))) ∧ (req true ((req true (req true (req true (req true (req true (((y59.1), (y59.2)) = y)))))) ∧ (req true (req true (req true (req true (req true (((y59.1), (y59.2)) = y)))))))))) ∧ (req true (req true ((req true (req true (req true (req true (req true (((y59.1), (y59.2)) = y)))))) ∧ (req true (req true (req true (req true (req true (((y59.1), (y59.2)) = y))))))))))))))))))))))))) ∧ (req true (∃ y60 : Int, (next_of_R a5 y60) ∧ (req true (req true (req true (∃ y61 : Int, (cron_Check_R a0 a1 a2 a3 a4 y61) ∧ (req true (br (y61 != 0) ((req true (req true (req true (req true (req true ((0, false) = y)))))) ∧ (req true (req true (req true (req true (req true ((0, false) = y))))))) (req true (req true (req true (req true (req true (req true (((none : Option Nat) = (none : Option Nat)) ∧ (next_Last_l2_body = next_Last_l2_body) ∧ ∃ z62 : next_Last_l2_Z, ∃ z62q : next_Last_l2_Q, ∃ y63 : next_Last_l2_Y, (7 = 7) ∧ (∃ zc : next_Last_l2_C, wk 7 ⟨[(0, (V.agg [(V.int .u64 a0), (V.int .u64 a1), (V.int .u64 a2), (V.int .u64 a3), (V.int .u64 a4)])), (1, (V.int .i64 y60)), (2, (V.bool true)), (3, (V.fn 42 [] [(V.ptr 1 0)])), (4, (V.ptr 2 0)), (7, (V.ptr 3 0)), (8, (V.ptr 4 0)), (9, (V.ptr 5 0)), (14, (V.agg [(V.int .u64 a0), (V.int .u64 a1), (V.int .u64 a2), (V.int .u64 a3), (V.int .u64 a4)])), (15, (V.int .i64 y61)), (16, (V.bool (y61 != 0))), (17, (V.agg [(V.int .u64 a0), (V.int .u64 a1), (V.int .u64 a2), (V.int .u64 a3), (V.int .u64 a4)])), (18, (V.fn 105 [] [(V.ptr 6 0)])), (10, (V.fn 105 [] [(V.ptr 6 0)])), (19, (V.int .i64 0))], [(Blk.cells [(V.int .u64 a0), (V.int .u64 a1), (V.int .u64 a2), (V.int .u64 a3), (V.int .u64 a4)]), (Blk.cells [(V.int .i64 a5)]), (Blk.cells [(V.int .u64 a0), (V.int .u64 a1), (V.int .u64 a2), (V.int .u64 a3), (V.int .u64 a4)]), (Blk.cells [(V.fn 42 [] [(V.ptr 1 0)])]), (Blk.cells [(V.int .i64 0)]), (Blk.cells [(V.bool false)]), (Blk.cells [(V.int .u64 a0), (V.int .u64 a1), (V.int .u64 a2), (V.int .u64 a3), (V.int .u64 a4)])], []⟩ (next_Last_l2_st z62 z62q zc)) ∧ (∃ k, next_Last_l2 k z62 y63) ∧ ((req true ((req true ((req true (req true (req true (req true (req true (((y63.1), (y63.2)) = y)))))) ∧ (req true (req true (req true (req true (req true (((y63.1), (y63.2)) = y)))))))) ∧ (req true ((req true (req true (req true (req true (req true (((y63.1), (y63.2)) = y)))))) ∧ (req true (req true (req true (req true (req true (((y63.1), (y63.2)) = y)))))))))) ∧ (req true (req true ((req true (req true (req true (req true (req true (((y63.1), (y63.2)) = y)))))) ∧ (req true (req true (req true (req true (req true (((y63.1), (y63.2)) = y)))))))))))))))))))))))))))))))) := by kernel_rfl
theorem next_Last_run (a0 : Int) (a1 : Int) (a2 : Int) (a3 : Int) (a4 : Int) (a5 : Int) (y : Int × Bool) (h : next_Last_R a0 a1 a2 a3 a4 a5 y) : acall next_Last_cx okT next_Last_lp 60 (.fn 18 [] []) [(V.agg [(V.int .u64 a0), (V.int .u64 a1), (V.int .u64 a2), (V.int .u64 a3), (V.int .u64 a4)]), (V.int .i64 a5)] [] (leafK (.tup (.cons (.int .i64) (.one .bool))) y) := by
  refine cast (next_Last_tree a0 a1 a2 a3 a4 a5 y).symm ?_
  unfold next_Last_R at h
  iterate 2 refine req_intro rfl ?_
  refine ⟨?_, ?_, ?_⟩
  · refine req_intro rfl ?_
    refine ⟨?_, ?_⟩
    · refine req_intro rfl ?_
      refine ⟨?_, ?_⟩
      · refine req_intro rfl ?_
        obtain ⟨y1, ry1, h⟩ := h
        refine ⟨y1, ry1, ?_⟩
        iterate 3 refine req_intro rfl ?_
        obtain ⟨y2, ry2, h⟩ := h
        refine ⟨y2, ry2, ?_⟩
        refine req_intro rfl ?_
        refine br_both h (fun hb h => ?_) (fun hb h => ?_)
        · refine ⟨?_, ?_⟩
          · iterate 4 refine req_intro rfl ?_
            exact req_intro rfl h
          · iterate 4 refine req_intro rfl ?_
            exact req_intro rfl h
        · iterate 6 refine req_intro rfl ?_
          obtain ⟨y20, ry20, h⟩ := h
          refine ⟨rfl, rfl, (a0, a1, a2, a3, a4, a5, y1, 0), (), y20, rfl, ⟨(), wk_of (Or.inr ⟨⟨Or.inl rfl, Or.inl rfl, Or.inl rfl, Or.inl rfl, Or.inl rfl, Or.inl rfl, Or.inl rfl, Or.inl rfl, trivial⟩, ⟨Or.inl rfl, Or.inl rfl, Or.inl rfl, Or.inl rfl, Or.inl rfl, Or.inl rfl, Or.inl rfl, trivial⟩, rfl, rfl, rfl⟩)⟩, ry20, ?_⟩
          refine ⟨?_, ?_⟩
          · refine req_intro rfl ?_
            refine ⟨?_, ?_⟩
            · refine req_intro rfl ?_
              refine ⟨?_, ?_⟩
              · iterate 4 refine req_intro rfl ?_
                exact req_intro rfl h
              · iterate 4 refine req_intro rfl ?_
                exact req_intro rfl h
            · refine req_intro rfl ?_
              refine ⟨?_, ?_⟩
              · iterate 4 refine req_intro rfl ?_
                exact req_intro rfl h
              · iterate 4 refine req_intro rfl ?_
                exact req_intro rfl h
          · iterate 2 refine req_intro rfl ?_
            refine ⟨?_, ?_⟩
            · iterate 4 refine req_intro rfl ?_
              exact req_intro rfl h
            · iterate 4 refine req_intro rfl ?_
              exact req_intro rfl h
      · iterate 2 refine req_intro rfl ?_
        obtain ⟨y21, ry21, h⟩ := h
        refine ⟨y21, ry21, ?_⟩
        iterate 2 refine req_intro rfl ?_
        obtain ⟨y22, ry22, h⟩ := h
        refine ⟨y22, ry22, ?_⟩
        refine req_intro rfl ?_
        refine br_both h (fun hb h => ?_) (fun hb h => ?_)
        · refine ⟨?_, ?_⟩
          · iterate 4 refine req_intro rfl ?_
            exact req_intro rfl h
          · iterate 4 refine req_intro rfl ?_
            exact req_intro rfl h
        · iterate 6 refine req_intro rfl ?_
          obtain ⟨y24, ry24, h⟩ := h
          refine ⟨rfl, rfl, (a0, a1, a2, a3, a4, a5, y21, 0), (), y24, rfl, ⟨(), wk_of (Or.inr ⟨⟨Or.inl rfl, Or.inl rfl, Or.inl rfl, Or.inl rfl, Or.inl rfl, Or.inl rfl, Or.inl rfl, Or.inl rfl, trivial⟩, ⟨Or.inl rfl, Or.inl rfl, Or.inl rfl, Or.inl rfl, Or.inl rfl, Or.inl rfl, Or.inl rfl, trivial⟩, rfl, rfl, rfl⟩)⟩, ry24, ?_⟩
          refine ⟨?_, ?_⟩
          · refine req_intro rfl ?_
            refine ⟨?_, ?_⟩
            · refine req_intro rfl ?_
              refine ⟨?_, ?_⟩
              · iterate 4 refine req_intro rfl ?_
                exact req_intro rfl h
              · iterate 4 refine req_intro rfl ?_
                exact req_intro rfl h
            · refine req_intro rfl ?_
              refine ⟨?_, ?_⟩
              · iterate 4 refine req_intro rfl ?_
                exact req_intro rfl h
              · iterate 4 refine req_intro rfl ?_
                exact req_intro rfl h
          · iterate 2 refine req_intro rfl ?_
            refine ⟨?_, ?_⟩
            · iterate 4 refine req_intro rfl ?_
              exact req_intro rfl h
            · iterate 4 refine req_intro rfl ?_
              exact req_intro rfl h
    · iterate 3 refine req_intro rfl ?_
      obtain ⟨y25, ry25, h⟩ := h
      refine ⟨y25, ry25, ?_⟩
      iterate 2 refine req_intro rfl ?_
      obtain ⟨y26, ry26, h⟩ := h
      refine ⟨y26, ry26, ?_⟩
      refine req_intro rfl ?_
      refine br_both h (fun hb h => ?_) (fun hb h => ?_)
      · refine ⟨?_, ?_⟩
        · iterate 4 refine req_intro rfl ?_
          exact req_intro rfl h
        · iterate 4 refine req_intro rfl ?_
          exact req_intro rfl h
      · iterate 6 refine req_intro rfl ?_
        obtain ⟨y28, ry28, h⟩ := h
        refine ⟨rfl, rfl, (a0, a1, a2, a3, a4, a5, y25, 0), (), y28, rfl, ⟨(), wk_of (Or.inr ⟨⟨Or.inl rfl, Or.inl rfl, Or.inl rfl, Or.inl rfl, Or.inl rfl, Or.inl rfl, Or.inl rfl, Or.inl rfl, trivial⟩, ⟨Or.inl rfl, Or.inl rfl, Or.inl rfl, Or.inl rfl, Or.inl rfl, Or.inl rfl, Or.inl rfl, trivial⟩, rfl, rfl, rfl⟩)⟩, ry28, ?_⟩
        refine ⟨?_, ?_⟩
        · refine req_intro rfl ?_
          refine ⟨?_, ?_⟩
          · refine req_intro rfl ?_
            refine ⟨?_, ?_⟩
            · iterate 4 refine req_intro rfl ?_
              exact req_intro rfl h
            · iterate 4 refine req_intro rfl ?_
              exact req_intro rfl h
          · refine req_intro rfl ?_
            refine ⟨?_, ?_⟩
            · iterate 4 refine req_intro rfl ?_
              exact req_intro rfl h
            · iterate 4 refine req_intro rfl ?_
              exact req_intro rfl h
        · iterate 2 refine req_intro rfl ?_
          refine ⟨?_, ?_⟩
          · iterate 4 refine req_intro rfl ?_
            exact req_intro rfl h
          · iterate 4 refine req_intro rfl ?_
            exact req_intro rfl h
  · refine req_intro rfl ?_
    refine ⟨?_, ?_, ?_⟩
    · refine req_intro rfl ?_
      refine ⟨?_, ?_⟩
      · refine req_intro rfl ?_
        obtain ⟨y29, ry29, h⟩ := h
        refine ⟨y29, ry29, ?_⟩
        iterate 3 refine req_intro rfl ?_
        obtain ⟨y30, ry30, h⟩ := h
        refine ⟨y30, ry30, ?_⟩
        refine req_intro rfl ?_
        refine br_both h (fun hb h => ?_) (fun hb h => ?_)
        · refine ⟨?_, ?_⟩
          · iterate 4 refine req_intro rfl ?_
            exact req_intro rfl h
          · iterate 4 refine req_intro rfl ?_
            exact req_intro rfl h
        · iterate 6 refine req_intro rfl ?_
          obtain ⟨y32, ry32, h⟩ := h
          refine ⟨rfl, rfl, (a0, a1, a2, a3, a4, a5, y29, 0), (), y32, rfl, ⟨(), wk_of (Or.inr ⟨⟨Or.inl rfl, Or.inl rfl, Or.inl rfl, Or.inl rfl, Or.inl rfl, Or.inl rfl, Or.inl rfl, Or.inl rfl, trivial⟩, ⟨Or.inl rfl, Or.inl rfl, Or.inl rfl, Or.inl rfl, Or.inl rfl, Or.inl rfl, Or.inl rfl, trivial⟩, rfl, rfl, rfl⟩)⟩, ry32, ?_⟩
          refine ⟨?_, ?_⟩
          · refine req_intro rfl ?_
            refine ⟨?_, ?_⟩
            · refine req_intro rfl ?_
              refine ⟨?_, ?_⟩
              · iterate 4 refine req_intro rfl ?_
                exact req_intro rfl h
              · iterate 4 refine req_intro rfl ?_
                exact req_intro rfl h
            · refine req_intro rfl ?_
              refine ⟨?_, ?_⟩
              · iterate 4 refine req_intro rfl ?_
                exact req_intro rfl h
              · iterate 4 refine req_intro rfl ?_
                exact req_intro rfl h
          · iterate 2 refine req_intro rfl ?_
            refine ⟨?_, ?_⟩
            · iterate 4 refine req_intro rfl ?_
              exact req_intro rfl h
            · iterate 4 refine req_intro rfl ?_
              exact req_intro rfl h
      · iterate 2 refine req_intro rfl ?_
        obtain ⟨y33, ry33, h⟩ := h
        refine ⟨y33, ry33, ?_⟩
        iterate 2 refine req_intro rfl ?_
        obtain ⟨y34, ry34, h⟩ := h
        refine ⟨y34, ry34, ?_⟩
        refine req_intro rfl ?_
        refine br_both h (fun hb h => ?_) (fun hb h => ?_)
        · refine ⟨?_, ?_⟩
          · iterate 4 refine req_intro rfl ?_
            exact req_intro rfl h
          · iterate 4 refine req_intro rfl ?_
            exact req_intro rfl h
        · iterate 6 refine req_intro rfl ?_
          obtain ⟨y36, ry36, h⟩ := h
          refine ⟨rfl, rfl, (a0, a1, a2, a3, a4, a5, y33, 0), (), y36, rfl, ⟨(), wk_of (Or.inr ⟨⟨Or.inl rfl, Or.inl rfl, Or.inl rfl, Or.inl rfl, Or.inl rfl, Or.inl rfl, Or.inl rfl, Or.inl rfl, trivial⟩, ⟨Or.inl rfl, Or.inl rfl, Or.inl rfl, Or.inl rfl, Or.inl rfl, Or.inl rfl, Or.inl rfl, trivial⟩, rfl, rfl, rfl⟩)⟩, ry36, ?_⟩
          refine ⟨?_, ?_⟩
          · refine req_intro rfl ?_
            refine ⟨?_, ?_⟩
            · refine req_intro rfl ?_
              refine ⟨?_, ?_⟩
              · iterate 4 refine req_intro rfl ?_
                exact req_intro rfl h
              · iterate 4 refine req_intro rfl ?_
                exact req_intro rfl h
            · refine req_intro rfl ?_
              refine ⟨?_, ?_⟩
              · iterate 4 refine req_intro rfl ?_
                exact req_intro rfl h
              · iterate 4 refine req_intro rfl ?_
                exact req_intro rfl h
          · iterate 2 refine req_intro rfl ?_
            refine ⟨?_, ?_⟩
            · iterate 4 refine req_intro rfl ?_
              exact req_intro rfl h
            · iterate 4 refine req_intro rfl ?_
              exact req_intro rfl h
    · refine req_intro rfl ?_
      obtain ⟨y37, ry37, h⟩ := h
      refine ⟨y37, ry37, ?_⟩
      refine ⟨?_, ?_⟩
      · iterate 4 refine req_intro rfl ?_
        obtain ⟨y38, ry38, h⟩ := h
        refine ⟨y38, ry38, ?_⟩
        refine req_intro rfl ?_
        refine br_both h (fun hb h => ?_) (fun hb h => ?_)
        · refine ⟨?_, ?_⟩
          · iterate 4 refine req_intro rfl ?_
            exact req_intro rfl h
          · iterate 4 refine req_intro rfl ?_
            exact req_intro rfl h
        · iterate 6 refine req_intro rfl ?_
          obtain ⟨y40, ry40, h⟩ := h
          refine ⟨rfl, rfl, (a0, a1, a2, a3, a4, a5, y37, 0), (), y40, rfl, ⟨(), wk_of (Or.inr ⟨⟨Or.inl rfl, Or.inl rfl, Or.inl rfl, Or.inl rfl, Or.inl rfl, Or.inl rfl, Or.inl rfl, Or.inl rfl, trivial⟩, ⟨Or.inl rfl, Or.inl rfl, Or.inl rfl, Or.inl rfl, Or.inl rfl, Or.inl rfl, Or.inl rfl, trivial⟩, rfl, rfl, rfl⟩)⟩, ry40, ?_⟩
          refine ⟨?_, ?_⟩
          · refine req_intro rfl ?_
            refine ⟨?_, ?_⟩
            · refine req_intro rfl ?_
              refine ⟨?_, ?_⟩
              · iterate 4 refine req_intro rfl ?_
                exact req_intro rfl h
              · iterate 4 refine req_intro rfl ?_
                exact req_intro rfl h
            · refine req_intro rfl ?_
              refine ⟨?_, ?_⟩
              · iterate 4 refine req_intro rfl ?_
                exact req_intro rfl h
              · iterate 4 refine req_intro rfl ?_
                exact req_intro rfl h
          · iterate 2 refine req_intro rfl ?_
            refine ⟨?_, ?_⟩
            · iterate 4 refine req_intro rfl ?_
              exact req_intro rfl h
            · iterate 4 refine req_intro rfl ?_
              exact req_intro rfl h
      · iterate 4 refine req_intro rfl ?_
        obtain ⟨y41, ry41, h⟩ := h
        refine ⟨y41, ry41, ?_⟩
        refine req_intro rfl ?_
        refine br_both h (fun hb h => ?_) (fun hb h => ?_)
        · refine ⟨?_, ?_⟩
          · iterate 4 refine req_intro rfl ?_
            exact req_intro rfl h
          · iterate 4 refine req_intro rfl ?_
            exact req_intro rfl h
        · iterate 6 refine req_intro rfl ?_
          obtain ⟨y43, ry43, h⟩ := h
          refine ⟨rfl, rfl, (a0, a1, a2, a3, a4, a5, y37, 0), (), y43, rfl, ⟨(), wk_of (Or.inr ⟨⟨Or.inl rfl, Or.inl rfl, Or.inl rfl, Or.inl rfl, Or.inl rfl, Or.inl rfl, Or.inl rfl, Or.inl rfl, trivial⟩, ⟨Or.inl rfl, Or.inl rfl, Or.inl rfl, Or.inl rfl, Or.inl rfl, Or.inl rfl, Or.inl rfl, trivial⟩, rfl, rfl, rfl⟩)⟩, ry43, ?_⟩
          refine ⟨?_, ?_⟩
          · refine req_intro rfl ?_
            refine ⟨?_, ?_⟩
            · refine req_intro rfl ?_
              refine ⟨?_, ?_⟩
              · iterate 4 refine req_intro rfl ?_
                exact req_intro rfl h
              · iterate 4 refine req_intro rfl ?_
                exact req_intro rfl h
            · refine req_intro rfl ?_
              refine ⟨?_, ?_⟩
              · iterate 4 refine req_intro rfl ?_
                exact req_intro rfl h
              · iterate 4 refine req_intro rfl ?_
                exact req_intro rfl h
          · iterate 2 refine req_intro rfl ?_
            refine ⟨?_, ?_⟩
            · iterate 4 refine req_intro rfl ?_
              exact req_intro rfl h
            · iterate 4 refine req_intro rfl ?_
              exact req_intro rfl h
    · refine req_intro rfl ?_
      refine ⟨?_, ?_⟩
      · iterate 2 refine req_intro rfl ?_
        obtain ⟨y44, ry44, h⟩ := h
        refine ⟨y44, ry44, ?_⟩
        iterate 2 refine req_intro rfl ?_
        obtain ⟨y45, ry45, h⟩ := h
        refine ⟨y45, ry45, ?_⟩
        refine req_intro rfl ?_
        refine br_both h (fun hb h => ?_) (fun hb h => ?_)
        · refine ⟨?_, ?_⟩
          · iterate 4 refine req_intro rfl ?_
            exact req_intro rfl h
          · iterate 4 refine req_intro rfl ?_
            exact req_intro rfl h
        · iterate 6 refine req_intro rfl ?_
          obtain ⟨y47, ry47, h⟩ := h
          refine ⟨rfl, rfl, (a0, a1, a2, a3, a4, a5, y44, 0), (), y47, rfl, ⟨(), wk_of (Or.inr ⟨⟨Or.inl rfl, Or.inl rfl, Or.inl rfl, Or.inl rfl, Or.inl rfl, Or.inl rfl, Or.inl rfl, Or.inl rfl, trivial⟩, ⟨Or.inl rfl, Or.inl rfl, Or.inl rfl, Or.inl rfl, Or.inl rfl, Or.inl rfl, Or.inl rfl, trivial⟩, rfl, rfl, rfl⟩)⟩, ry47, ?_⟩
          refine ⟨?_, ?_⟩
          · refine req_intro rfl ?_
            refine ⟨?_, ?_⟩
            · refine req_intro rfl ?_
              refine ⟨?_, ?_⟩
              · iterate 4 refine req_intro rfl ?_
                exact req_intro rfl h
              · iterate 4 refine req_intro rfl ?_
                exact req_intro rfl h
            · refine req_intro rfl ?_
              refine ⟨?_, ?_⟩
              · iterate 4 refine req_intro rfl ?_
                exact req_intro rfl h
              · iterate 4 refine req_intro rfl ?_
                exact req_intro rfl h
          · iterate 2 refine req_intro rfl ?_
            refine ⟨?_, ?_⟩
            · iterate 4 refine req_intro rfl ?_
              exact req_intro rfl h
            · iterate 4 refine req_intro rfl ?_
              exact req_intro rfl h
      · refine req_intro rfl ?_
        obtain ⟨y48, ry48, h⟩ := h
        refine ⟨y48, ry48, ?_⟩
        iterate 3 refine req_intro rfl ?_
        obtain ⟨y49, ry49, h⟩ := h
        refine ⟨y49, ry49, ?_⟩
        refine req_intro rfl ?_
        refine br_both h (fun hb h => ?_) (fun hb h => ?_)
        · refine ⟨?_, ?_⟩
          · iterate 4 refine req_intro rfl ?_
            exact req_intro rfl h
          · iterate 4 refine req_intro rfl ?_
            exact req_intro rfl h
        · iterate 6 refine req_intro rfl ?_
          obtain ⟨y51, ry51, h⟩ := h
          refine ⟨rfl, rfl, (a0, a1, a2, a3, a4, a5, y48, 0), (), y51, rfl, ⟨(), wk_of (Or.inr ⟨⟨Or.inl rfl, Or.inl rfl, Or.inl rfl, Or.inl rfl, Or.inl rfl, Or.inl rfl, Or.inl rfl, Or.inl rfl, trivial⟩, ⟨Or.inl rfl, Or.inl rfl, Or.inl rfl, Or.inl rfl, Or.inl rfl, Or.inl rfl, Or.inl rfl, trivial⟩, rfl, rfl, rfl⟩)⟩, ry51, ?_⟩
          refine ⟨?_, ?_⟩
          · refine req_intro rfl ?_
            refine ⟨?_, ?_⟩
            · refine req_intro rfl ?_
              refine ⟨?_, ?_⟩
              · iterate 4 refine req_intro rfl ?_
                exact req_intro rfl h
              · iterate 4 refine req_intro rfl ?_
                exact req_intro rfl h
            · refine req_intro rfl ?_
              refine ⟨?_, ?_⟩
              · iterate 4 refine req_intro rfl ?_
                exact req_intro rfl h
              · iterate 4 refine req_intro rfl ?_
                exact req_intro rfl h
          · iterate 2 refine req_intro rfl ?_
            refine ⟨?_, ?_⟩
            · iterate 4 refine req_intro rfl ?_
              exact req_intro rfl h
            · iterate 4 refine req_intro rfl ?_
              exact req_intro rfl h
  · refine req_intro rfl ?_
    refine ⟨?_, ?_⟩
    · iterate 3 refine req_intro rfl ?_
      obtain ⟨y52, ry52, h⟩ := h
      refine ⟨y52, ry52, ?_⟩
      iterate 2 refine req_intro rfl ?_
      obtain ⟨y53, ry53, h⟩ := h
      refine ⟨y53, ry53, ?_⟩
      refine req_intro rfl ?_
      refine br_both h (fun hb h => ?_) (fun hb h => ?_)
      · refine ⟨?_, ?_⟩
        · iterate 4 refine req_intro rfl ?_
          exact req_intro rfl h
        · iterate 4 refine req_intro rfl ?_
          exact req_intro rfl h
      · iterate 6 refine req_intro rfl ?_
        obtain ⟨y55, ry55, h⟩ := h
        refine ⟨rfl, rfl, (a0, a1, a2, a3, a4, a5, y52, 0), (), y55, rfl, ⟨(), wk_of (Or.inr ⟨⟨Or.inl rfl, Or.inl rfl, Or.inl rfl, Or.inl rfl, Or.inl rfl, Or.inl rfl, Or.inl rfl, Or.inl rfl, trivial⟩, ⟨Or.inl rfl, Or.inl rfl, Or.inl rfl, Or.inl rfl, Or.inl rfl, Or.inl rfl, Or.inl rfl, trivial⟩, rfl, rfl, rfl⟩)⟩, ry55, ?_⟩
        refine ⟨?_, ?_⟩
        · refine req_intro rfl ?_
          refine ⟨?_, ?_⟩
          · refine req_intro rfl ?_
            refine ⟨?_, ?_⟩
            · iterate 4 refine req_intro rfl ?_
              exact req_intro rfl h
            · iterate 4 refine req_intro rfl ?_
              exact req_intro rfl h
          · refine req_intro rfl ?_
            refine ⟨?_, ?_⟩
            · iterate 4 refine req_intro rfl ?_
              exact req_intro rfl h
            · iterate 4 refine req_intro rfl ?_
              exact req_intro rfl h
        · iterate 2 refine req_intro rfl ?_
          refine ⟨?_, ?_⟩
          · iterate 4 refine req_intro rfl ?_
            exact req_intro rfl h
          · iterate 4 refine req_intro rfl ?_
            exact req_intro rfl h
    · refine req_intro rfl ?_
      refine ⟨?_, ?_⟩
      · iterate 2 refine req_intro rfl ?_
        obtain ⟨y56, ry56, h⟩ := h
        refine ⟨y56, ry56, ?_⟩
        iterate 2 refine req_intro rfl ?_
        obtain ⟨y57, ry57, h⟩ := h
        refine ⟨y57, ry57, ?_⟩
        refine req_intro rfl ?_
        refine br_both h (fun hb h => ?_) (fun hb h => ?_)
        · refine ⟨?_, ?_⟩
          · iterate 4 refine req_intro rfl ?_
            exact req_intro rfl h
          · iterate 4 refine req_intro rfl ?_
            exact req_intro rfl h
        · iterate 6 refine req_intro rfl ?_
          obtain ⟨y59, ry59, h⟩ := h
          refine ⟨rfl, rfl, (a0, a1, a2, a3, a4, a5, y56, 0), (), y59, rfl, ⟨(), wk_of (Or.inr ⟨⟨Or.inl rfl, Or.inl rfl, Or.inl rfl, Or.inl rfl, Or.inl rfl, Or.inl rfl, Or.inl rfl, Or.inl rfl, trivial⟩, ⟨Or.inl rfl, Or.inl rfl, Or.inl rfl, Or.inl rfl, Or.inl rfl, Or.inl rfl, Or.inl rfl, trivial⟩, rfl, rfl, rfl⟩)⟩, ry59, ?_⟩
          refine ⟨?_, ?_⟩
          · refine req_intro rfl ?_
            refine ⟨?_, ?_⟩
            · refine req_intro rfl ?_
              refine ⟨?_, ?_⟩
              · iterate 4 refine req_intro rfl ?_
                exact req_intro rfl h
              · iterate 4 refine req_intro rfl ?_
                exact req_intro rfl h
            · refine req_intro rfl ?_
              refine ⟨?_, ?_⟩
              · iterate 4 refine req_intro rfl ?_
                exact req_intro rfl h
              · iterate 4 refine req_intro rfl ?_
                exact req_intro rfl h
          · iterate 2 refine req_intro rfl ?_
            refine ⟨?_, ?_⟩
            · iterate 4 refine req_intro rfl ?_
              exact req_intro rfl h
            · iterate 4 refine req_intro rfl ?_
              exact req_intro rfl h
      · refine req_intro rfl ?_
        obtain ⟨y60, ry60, h⟩ := h
        refine ⟨y60, ry60, ?_⟩
        iterate 3 refine req_intro rfl ?_
        obtain ⟨y61, ry61, h⟩ := h
        refine ⟨y61, ry61, ?_⟩
        refine req_intro rfl ?_
        refine br_both h (fun hb h => ?_) (fun hb h => ?_)
        · refine ⟨?_, ?_⟩
          · iterate 4 refine req_intro rfl ?_
            exact req_intro rfl h
          · iterate 4 refine req_intro rfl ?_
            exact req_intro rfl h
        · iterate 6 refine req_intro rfl ?_
          obtain ⟨y63, ry63, h⟩ := h
          refine ⟨rfl, rfl, (a0, a1, a2, a3, a4, a5, y60, 0), (), y63, rfl, ⟨(), wk_of (Or.inr ⟨⟨Or.inl rfl, Or.inl rfl, Or.inl rfl, Or.inl rfl, Or.inl rfl, Or.inl rfl, Or.inl rfl, Or.inl rfl, trivial⟩, ⟨Or.inl rfl, Or.inl rfl, Or.inl rfl, Or.inl rfl, Or.inl rfl, Or.inl rfl, Or.inl rfl, trivial⟩, rfl, rfl, rfl⟩)⟩, ry63, ?_⟩
          refine ⟨?_, ?_⟩
          · refine req_intro rfl ?_
            refine ⟨?_, ?_⟩
            · refine req_intro rfl ?_
              refine ⟨?_, ?_⟩
              · iterate 4 refine req_intro rfl ?_
                exact req_intro rfl h
              · iterate 4 refine req_intro rfl ?_
                exact req_intro rfl h
            · refine req_intro rfl ?_
              refine ⟨?_, ?_⟩
              · iterate 4 refine req_intro rfl ?_
                exact req_intro rfl h
              · iterate 4 refine req_intro rfl ?_
                exact req_intro rfl h
          · iterate 2 refine req_intro rfl ?_
            refine ⟨?_, ?_⟩
            · iterate 4 refine req_intro rfl ?_
              exact req_intro rfl h
            · iterate 4 refine req_intro rfl ?_
              exact req_intro rfl h
theorem next_Last_ok : FxOk Tryd.prog gsT 18 (.cons (.agg (.cons (.int .u64) (.cons (.int .u64) (.cons (.int .u64) (.cons (.int .u64) (.one (.int .u64))))))) (.one (.int .i64))) (.tup (.cons (.int .i64) (.one .bool))) fun x y => next_Last_R (x.1.1) (x.1.2.1) (x.1.2.2.1) (x.1.2.2.2.1) (x.1.2.2.2.2) (x.2) y := fx_of (c := next_Last_cx) (ty_ok rfl) (eq_ok rfl) next_Last_fns follows_ok (ok := okT) (lp := next_Last_lp) (n := 60) next_Last_lpok (enters Tryd.func18 (by kernel_rfl) rfl) (fun y => ⟨_, rfl⟩) fun x y h => next_Last_run _ _ _ _ _ _ y h
noncomputable def curfewlaw08_leap_cx : Cx := ⟨tyT, [(36, .body Tryd.f36)], gsT, eqT⟩
theorem curfewlaw08_leap_fns : FnsOk Tryd.prog curfewlaw08_leap_cx := Fns_assoc ⟨body_ent Tryd.func36 (by kernel_rfl) (by kernel_rfl), trivial⟩
def curfewlaw08_leap_R (y : Int × Int × Int × Int × Int) : Prop :=
  ((1, (1, (536870912, (4, 127)))) = y)
theorem curfewlaw08_leap_tree (y : Int × Int × Int × Int × Int) : acall curfewlaw08_leap_cx okT lpT 60 (.fn 36 [] []) [] [] (leafK (.agg (.cons (.int .u64) (.cons (.int .u64) (.cons (.int .u64) (.cons (.int .u64) (.one (.int .u64))))))) y) =
    (req true (req true ((1, (1, (536870912, (4, 127)))) = y))) := by kernel_rfl
theorem curfewlaw08_leap_run (y : Int × Int × Int × Int × Int) (h : curfewlaw08_leap_R y) : acall curfewlaw08_leap_cx okT lpT 60 (.fn 36 [] []) [] [] (leafK (.agg (.cons (.int .u64) (.cons (.int .u64) (.cons (.int .u64) (.cons (.int .u64) (.one (.int .u64))))))) y) := by
  refine cast (curfewlaw08_leap_tree y).symm ?_
  unfold curfewlaw08_leap_R at h
  refine req_intro rfl ?_
  exact req_intro rfl h
theorem curfewlaw08_leap_ok : FxOk Tryd.prog gsT 36 (.one .none) (.agg (.cons (.int .u64) (.cons (.int .u64) (.cons (.int .u64) (.cons (.int .u64) (.one (.int .u64))))))) fun x y => curfewlaw08_leap_R y := fx_of (c := curfewlaw08_leap_cx) (ty_ok rfl) (eq_ok rfl) curfewlaw08_leap_fns follows_ok (ok := okT) (lp := lpT) (n := 60) lp_ok (enters Tryd.func36 (by kernel_rfl) rfl) (fun y => ⟨_, rfl⟩) fun x y h => curfewlaw08_leap_run y h
noncomputable def curfewlaw08_wakes_cx : Cx := ⟨tyT, [(12, .body Tryd.f12),
  (13, .fx (.cons (.agg (.cons (.int .u64) (.cons (.int .u64) (.cons (.int .u64) (.cons (.int .u64) (.one (.int .u64))))))) (.cons (.agg (.cons (.int .i64) (.one (.int .i64)))) (.one (.int .i64)))) (.tup (.cons (.nw (.int .i64) 2) (.one (.int .i64)))) fun x y => next_Some_R (x.1.1) (x.1.2.1) (x.1.2.2.1) (x.1.2.2.2.1) (x.1.2.2.2.2) (x.2.1.1) (x.2.1.2) (x.2.2) y),
  (16, .fx (.cons (.sl (.int .i64)) (.one (.sl (.int .i64)))) .bool fun x y => slices_Equal__int64_int64_R (x.1) (x.2) y),
  (17, .fx (.cons (.agg (.cons (.int .u64) (.cons (.int .u64) (.cons (.int .u64) (.cons (.int .u64) (.one (.int .u64))))))) (.one (.int .i64))) (.tup (.cons (.int .i64) (.one .bool))) fun x y => next_Next_R (x.1.1) (x.1.2.1) (x.1.2.2.1) (x.1.2.2.2.1) (x.1.2.2.2.2) (x.2) y),
  (18, .fx (.cons (.agg (.cons (.int .u64) (.cons (.int .u64) (.cons (.int .u64) (.cons (.int .u64) (.one (.int .u64))))))) (.one (.int .i64))) (.tup (.cons (.int .i64) (.one .bool))) fun x y => next_Last_R (x.1.1) (x.1.2.1) (x.1.2.2.1) (x.1.2.2.2.1) (x.1.2.2.2.2) (x.2) y),
  (36, .fx (.one .none) (.agg (.cons (.int .u64) (.cons (.int .u64) (.cons (.int .u64) (.cons (.int .u64) (.one (.int .u64))))))) fun x y => curfewlaw08_leap_R y)], gsT, eqT⟩
theorem curfewlaw08_wakes_fns : FnsOk Tryd.prog curfewlaw08_wakes_cx := Fns_assoc ⟨body_ent Tryd.func12 (by kernel_rfl) (by kernel_rfl), next_Some_ok, slices_Equal__int64_int64_ok, next_Next_ok, next_Last_ok, curfewlaw08_leap_ok, trivial⟩
def curfewlaw08_wakes_R (y : Bool) : Prop :=
  (∃ y1 : Int × Int × Int × Int × Int, (curfewlaw08_leap_R y1) ∧ (∃ y2 : Int × Bool, (next_Next_R (y1.1) ((y1.2).1) (((y1.2).2).1) ((((y1.2).2).2).1) ((((y1.2).2).2).2) 3981312000 y2) ∧ (∃ y3 : Int × Int × Int × Int × Int, (curfewlaw08_leap_R y3) ∧ (∃ y4 : Int × Bool, (next_Last_R (y3.1) ((y3.2).1) (((y3.2).2).1) ((((y3.2).2).2).1) ((((y3.2).2).2).2) (IntKind.wrap .i64 ((y2.1) - 1)) y4) ∧ (∃ y5 : List Int × Int, (next_Some_R 32769 16777215 4294967294 8190 127 0 3600 9 y5) ∧ (br (y2.2) (br (y4.2) (br ((y5.2) == 0) (br ((y2.1) == 4233686400) (br ((y4.1) == 3981312000) (∃ y7 : Bool, (slices_Equal__int64_int64_R (y5.1) [900, 3600] y7) ∧ (y7 = y)) (false = y)) (false = y)) (false = y)) (false = y)) (false = y)))))))
theorem curfewlaw08_wakes_tree (y : Bool) : acall curfewlaw08_wakes_cx okT lpT 60 (.fn 12 [] []) [] [] (leafK .bool y) =
    (req true (req true (∃ y1 : Int × Int × Int × Int × Int, (curfewlaw08_leap_R y1) ∧ (req true (∃ y2 : Int × Bool, (next_Next_R (y1.1) ((y1.2).1) (((y1.2).2).1) ((((y1.2).2).2).1) ((((y1.2).2).2).2) 3981312000 y2) ∧ (req true (req true (req true (req true (req true (req true (∃ y3 : Int × Int × Int × Int × Int, (curfewlaw08_leap_R y3) ∧ (req true (req true (req true (∃ y4 : Int × Bool, (next_Last_R (y3.1) ((y3.2).1) (((y3.2).2).1) ((((y3.2).2).2).1) ((((y3.2).2).2).2) (IntKind.wrap .i64 ((y2.1) - 1)) y4) ∧ (req true (req true (req true (req true (req true (req true (req true (req true (∃ y5 : List Int × Int, (next_Some_R 32769 16777215 4294967294 8190 127 0 3600 9 y5) ∧ (∀ c6 : Nat, (req true (req true (req true (req true (req true (req true (req true (br (y2.2) (req true (req true (req true (br (y4.2) (req true (req true (req true (req true (br ((y5.2) == 0) (req true (req true (req true (req true (br ((y2.1) == 4233686400) (req true (req true (req true (req true (br ((y4.1) == 3981312000) (req true (req ((Nat.beq (List.length (y5.1)) (List.length (y5.1))) && true) (∃ y7 : Bool, (slices_Equal__int64_int64_R (y5.1) [900, 3600] y7) ∧ (req true (req true (req true (y7 = y))))))) (req true (req true (req true (false = y))))))))) (req true (req true (req true (req true (req true (false = y))))))))))) (req true (req true (req true (req true (req true (req true (req true (false = y))))))))))))) (req true (req true (req true (req true (req true (req true (req true (req true (req true (false = y)))))))))))))) (req true (req true (req true (req true (req true (req true (req true (req true (req true (req true (req true (false = y)))))))))))))))))))))))))))))))))))))))))))))) := by kernel_rfl
theorem curfewlaw08_wakes_run (y : Bool) (h : curfewlaw08_wakes_R y) : acall curfewlaw08_wakes_cx okT lpT 60 (.fn 12 [] []) [] [] (leafK .bool y) := by
  refine cast (curfewlaw08_wakes_tree y).symm ?_
  unfold curfewlaw08_wakes_R at h
  iterate 2 refine req_intro rfl ?_
  obtain ⟨y1, ry1, h⟩ := h
  refine ⟨y1, ry1, ?_⟩
  refine req_intro rfl ?_
  obtain ⟨y2, ry2, h⟩ := h
  refine ⟨y2, ry2, ?_⟩
  iterate 6 refine req_intro rfl ?_
  obtain ⟨y3, ry3, h⟩ := h
  refine ⟨y3, ry3, ?_⟩
  iterate 3 refine req_intro rfl ?_
  obtain ⟨y4, ry4, h⟩ := h
  refine ⟨y4, ry4, ?_⟩
  iterate 8 refine req_intro rfl ?_
  obtain ⟨y5, ry5, h⟩ := h
  refine ⟨y5, ry5, ?_⟩
  intro c6
  iterate 7 refine req_intro rfl ?_
  refine br_both h (fun hb h => ?_) (fun hb h => ?_)
  · iterate 3 refine req_intro rfl ?_
    refine br_both h (fun hb h => ?_) (fun hb h => ?_)
    · iterate 4 refine req_intro rfl ?_
      refine br_both h (fun hb h => ?_) (fun hb h => ?_)
      · iterate 4 refine req_intro rfl ?_
        refine br_both h (fun hb h => ?_) (fun hb h => ?_)
        · iterate 4 refine req_intro rfl ?_
          refine br_both h (fun hb h => ?_) (fun hb h => ?_)
          · refine req_intro rfl ?_
            refine req_intro (band (Nat.beq_refl _) rfl) ?_
            obtain ⟨y7, ry7, h⟩ := h
            refine ⟨y7, ry7, ?_⟩
            iterate 2 refine req_intro rfl ?_
            exact req_intro rfl h
          · iterate 2 refine req_intro rfl ?_
            exact req_intro rfl h
        · iterate 4 refine req_intro rfl ?_
          exact req_intro rfl h
      · iterate 6 refine req_intro rfl ?_
        exact req_intro rfl h
    · iterate 8 refine req_intro rfl ?_
      exact req_intro rfl h
  · iterate 10 refine req_intro rfl ?_
    exact req_intro rfl h
theorem curfewlaw08_wakes_ok : FxOk Tryd.prog gsT 12 (.one .none) .bool fun x y => curfewlaw08_wakes_R y := fx_of (c := curfewlaw08_wakes_cx) (ty_ok rfl) (eq_ok rfl) curfewlaw08_wakes_fns follows_ok (ok := okT) (lp := lpT) (n := 60) lp_ok (enters Tryd.func12 (by kernel_rfl) rfl) (fun y => ⟨_, rfl⟩) fun x y h => curfewlaw08_wakes_run y h
noncomputable def curfewlaw08_NextTurns_cx : Cx := ⟨tyT, [(4, .body Tryd.f4),
  (12, .fx (.one .none) .bool fun x y => curfewlaw08_wakes_R y),
  (17, .fx (.cons (.agg (.cons (.int .u64) (.cons (.int .u64) (.cons (.int .u64) (.cons (.int .u64) (.one (.int .u64))))))) (.one (.int .i64))) (.tup (.cons (.int .i64) (.one .bool))) fun x y => next_Next_R (x.1.1) (x.1.2.1) (x.1.2.2.1) (x.1.2.2.2.1) (x.1.2.2.2.2) (x.2) y),
  (18, .fx (.cons (.agg (.cons (.int .u64) (.cons (.int .u64) (.cons (.int .u64) (.cons (.int .u64) (.one (.int .u64))))))) (.one (.int .i64))) (.tup (.cons (.int .i64) (.one .bool))) fun x y => next_Last_R (x.1.1) (x.1.2.1) (x.1.2.2.1) (x.1.2.2.2.1) (x.1.2.2.2.2) (x.2) y)], gsT, eqT⟩
theorem curfewlaw08_NextTurns_fns : FnsOk Tryd.prog curfewlaw08_NextTurns_cx := Fns_assoc ⟨body_ent Tryd.func4 (by kernel_rfl) (by kernel_rfl), curfewlaw08_wakes_ok, next_Next_ok, next_Last_ok, trivial⟩
def curfewlaw08_NextTurns_R (a0 : Int) (a1 : Int) (a2 : Int) (a3 : Int) (a4 : Int) (a5 : Int) (y : Bool) : Prop :=
  (∃ y1 : Bool, (curfewlaw08_wakes_R y1) ∧ (br (!y1) (false = y) (∃ y2 : Int × Bool, (next_Next_R a0 a1 a2 a3 a4 a5 y2) ∧ (br (y2.2) (∃ y3 : Int × Bool, (next_Last_R a0 a1 a2 a3 a4 (y2.1) y3) ∧ (∃ y4 : Int × Bool, (next_Next_R a0 a1 a2 a3 a4 (IntKind.wrap .i64 ((y2.1) - 1)) y4) ∧ (br (!(y3.2)) (false = y) (br ((y3.1) != (y2.1)) (false = y) (br (!(y4.2)) (false = y) (br ((y4.1) != (y2.1)) (false = y) (∃ y5 : Int × Bool, (next_Last_R a0 a1 a2 a3 a4 a5 y5) ∧ (br (y5.2) (∃ y6 : Int × Bool, (next_Next_R a0 a1 a2 a3 a4 (IntKind.wrap .i64 ((y5.1) - 1)) y6) ∧ (∃ y7 : Int × Bool, (next_Last_R a0 a1 a2 a3 a4 (y5.1) y7) ∧ (br (!(y6.2)) (false = y) (br ((y6.1) != (y5.1)) (false = y) (br (!(y7.2)) (false = y) (br ((y7.1) != (y5.1)) (false = y) (true = y))))))) (true = y))))))))) (∃ y8 : Int × Bool, (next_Last_R a0 a1 a2 a3 a4 a5 y8) ∧ (br (y8.2) (∃ y9 : Int × Bool, (next_Next_R a0 a1 a2 a3 a4 (IntKind.wrap .i64 ((y8.1) - 1)) y9) ∧ (∃ y10 : Int × Bool, (next_Last_R a0 a1 a2 a3 a4 (y8.1) y10) ∧ (br (!(y9.2)) (false = y) (br ((y9.1) != (y8.1)) (false = y) (br (!(y10.2)) (false = y) (br ((y10.1) != (y8.1)) (false = y) (true = y))))))) (true = y)))))))
theorem curfewlaw08_NextTurns_tree (a0 : Int) (a1 : Int) (a2 : Int) (a3 : Int) (a4 : Int) (a5 : Int) (y : Bool) : acall curfewlaw08_NextTurns_cx okT lpT 60 (.fn 4 [] []) [(V.agg [(V.int .u64 a0), (V.int .u64 a1), (V.int .u64 a2), (V.int .u64 a3), (V.int .u64 a4)]), (V.int .i64 a5)] [] (leafK .bool y) =
    (req true (req true (∃ y1 : Bool, (curfewlaw08_wakes_R y1) ∧ (req true (br (!y1) (req true (req true (false = y))) (req true (req true (req true (∃ y2 : Int × Bool, (next_Next_R a0 a1 a2 a3 a4 a5 y2) ∧ (req true (req true (req true (req true (req true (req true (br (y2.2) (req true (req true (req true (∃ y3 : Int × Bool, (next_Last_R a0 a1 a2 a3 a4 (y2.1) y3) ∧ (req true (req true (req true (req true (req true (req true (req true (req true (req true (∃ y4 : Int × Bool, (next_Next_R a0 a1 a2 a3 a4 (IntKind.wrap .i64 ((y2.1) - 1)) y4) ∧ (req true (req true (req true (req true (req true (req true (req true (req true (br (!(y3.2)) (req true (req true (req true (req true (req true (req true (req true (false = y)))))))) (req true (req true (req true (req true (req true (br ((y3.1) != (y2.1)) (req true (req true (req true (req true (req true (false = y)))))) (req true (req true (req true (req true (br (!(y4.2)) (req true (req true (req true (false = y)))) (req true (req true (req true (req true (br ((y4.1) != (y2.1)) (req true (req true (false = y))) (req true (req true (req true (∃ y5 : Int × Bool, (next_Last_R a0 a1 a2 a3 a4 a5 y5) ∧ (req true (req true (req true (req true (req true (req true (br (y5.2) (req true (req true (req true (req true (∃ y6 : Int × Bool, (next_Next_R a0 a1 a2 a3 a4 (IntKind.wrap .i64 ((y5.1) - 1)) y6) ∧ (req true (req true (req true (req true (req true (req true (req true (req true (∃ y7 : Int × Bool, (next_Last_R a0 a1 a2 a3 a4 (y5.1) y7) ∧ (req true (req true (req true (req true (req true (req true (req true (req true (br (!(y6.2)) (req true (req true (req true (req true (req true (req true (req true (false = y)))))))) (req true (req true (req true (req true (req true (br ((y6.1) != (y5.1)) (req true (req true (req true (req true (req true (false = y)))))) (req true (req true (req true (req true (br (!(y7.2)) (req true (req true (req true (false = y)))) (req true (req true (req true (req true (br ((y7.1) != (y5.1)) (req true (req true (false = y))) (req true (req true (true = y)))))))))))))))))))))))))))))))))))))))))) (req true (req true (true = y))))))))))))))))))))))))))))))))))))))))))))))))))))) (req true (req true (req true (∃ y8 : Int × Bool, (next_Last_R a0 a1 a2 a3 a4 a5 y8) ∧ (req true (req true (req true (req true (req true (req true (br (y8.2) (req true (req true (req true (req true (∃ y9 : Int × Bool, (next_Next_R a0 a1 a2 a3 a4 (IntKind.wrap .i64 ((y8.1) - 1)) y9) ∧ (req true (req true (req true (req true (req true (req true (req true (req true (∃ y10 : Int × Bool, (next_Last_R a0 a1 a2 a3 a4 (y8.1) y10) ∧ (req true (req true (req true (req true (req true (req true (req true (req true (br (!(y9.2)) (req true (req true (req true (req true (req true (req true (req true (false = y)))))))) (req true (req true (req true (req true (req true (br ((y9.1) != (y8.1)) (req true (req true (req true (req true (req true (false = y)))))) (req true (req true (req true (req true (br (!(y10.2)) (req true (req true (req true (false = y)))) (req true (req true (req true (req true (br ((y10.1) != (y8.1)) (req true (req true (false = y))) (req true (req true (true = y)))))))))))))))))))))))))))))))))))))))))) (req true (req true (true = y)))))))))))))))))))))))))))))) := by kernel_rfl
theorem curfewlaw08_NextTurns_run (a0 : Int) (a1 : Int) (a2 : Int) (a3 : Int) (a4 : Int) (a5 : Int) (y : Bool) (h : curfewlaw08_NextTurns_R a0 a1 a2 a3 a4 a5 y) : acall curfewlaw08_NextTurns_cx okT lpT 60 (.fn 4 [] []) [(V.agg [(V.int .u64 a0), (V.int .u64 a1), (V.int .u64 a2), (V.int .u64 a3), (V.int .u64 a4)]), (V.int .i64 a5)] [] (leafK .bool y) := by
  refine cast (curfewlaw08_NextTurns_tree a0 a1 a2 a3 a4 a5 y).symm ?_
  unfold curfewlaw08_NextTurns_R at h
  iterate 2 refine req_intro rfl ?_
  obtain ⟨y1, ry1, h⟩ := h
  refine ⟨y1, ry1, ?_⟩
  refine req_intro rfl ?_
  refine br_both h (fun hb h => ?_) (fun hb h => ?_)
  · refine req_intro rfl ?_
    exact req_intro rfl h
  · iterate 3 refine req_intro rfl ?_
    obtain ⟨y2, ry2, h⟩ := h
    refine ⟨y2, ry2, ?_⟩
    iterate 6 refine req_intro rfl ?_
    refine br_both h (fun hb h => ?_) (fun hb h => ?_)
    · iterate 3 refine req_intro rfl ?_
      obtain ⟨y3, ry3, h⟩ := h
      refine ⟨y3, ry3, ?_⟩
      iterate 9 refine req_intro rfl ?_
      obtain ⟨y4, ry4, h⟩ := h
      refine ⟨y4, ry4, ?_⟩
      iterate 8 refine req_intro rfl ?_
      refine br_both h (fun hb h => ?_) (fun hb h => ?_)
      · iterate 6 refine req_intro rfl ?_
        exact req_intro rfl h
      · iterate 5 refine req_intro rfl ?_
        refine br_both h (fun hb h => ?_) (fun hb h => ?_)
        · iterate 4 refine req_intro rfl ?_
          exact req_intro rfl h
        · iterate 4 refine req_intro rfl ?_
          refine br_both h (fun hb h => ?_) (fun hb h => ?_)
          · iterate 2 refine req_intro rfl ?_
            exact req_intro rfl h
          · iterate 4 refine req_intro rfl ?_
            refine br_both h (fun hb h => ?_) (fun hb h => ?_)
            · refine req_intro rfl ?_
              exact req_intro rfl h
            · iterate 3 refine req_intro rfl ?_
              obtain ⟨y5, ry5, h⟩ := h
              refine ⟨y5, ry5, ?_⟩
              iterate 6 refine req_intro rfl ?_
              refine br_both h (fun hb h => ?_) (fun hb h => ?_)
              · iterate 4 refine req_intro rfl ?_
                obtain ⟨y6, ry6, h⟩ := h
                refine ⟨y6, ry6, ?_⟩
                iterate 8 refine req_intro rfl ?_
                obtain ⟨y7, ry7, h⟩ := h
                refine ⟨y7, ry7, ?_⟩
                iterate 8 refine req_intro rfl ?_
                refine br_both h (fun hb h => ?_) (fun hb h => ?_)
                · iterate 6 refine req_intro rfl ?_
                  exact req_intro rfl h
                · iterate 5 refine req_intro rfl ?_
                  refine br_both h (fun hb h => ?_) (fun hb h => ?_)
                  · iterate 4 refine req_intro rfl ?_
                    exact req_intro rfl h
                  · iterate 4 refine req_intro rfl ?_
                    refine br_both h (fun hb h => ?_) (fun hb h => ?_)
                    · iterate 2 refine req_intro rfl ?_
                      exact req_intro rfl h
                    · iterate 4 refine req_intro rfl ?_
                      refine br_both h (fun hb h => ?_) (fun hb h => ?_)
                      · refine req_intro rfl ?_
                        exact req_intro rfl h
                      · refine req_intro rfl ?_
                        exact req_intro rfl h
              · refine req_intro rfl ?_
                exact req_intro rfl h
    · iterate 3 refine req_intro rfl ?_
      obtain ⟨y8, ry8, h⟩ := h
      refine ⟨y8, ry8, ?_⟩
      iterate 6 refine req_intro rfl ?_
      refine br_both h (fun hb h => ?_) (fun hb h => ?_)
      · iterate 4 refine req_intro rfl ?_
        obtain ⟨y9, ry9, h⟩ := h
        refine ⟨y9, ry9, ?_⟩
        iterate 8 refine req_intro rfl ?_
        obtain ⟨y10, ry10, h⟩ := h
        refine ⟨y10, ry10, ?_⟩
        iterate 8 refine req_intro rfl ?_
        refine br_both h (fun hb h => ?_) (fun hb h => ?_)
        · iterate 6 refine req_intro rfl ?_
          exact req_intro rfl h
        · iterate 5 refine req_intro rfl ?_
          refine br_both h (fun hb h => ?_) (fun hb h => ?_)
          · iterate 4 refine req_intro rfl ?_
            exact req_intro rfl h
          · iterate 4 refine req_intro rfl ?_
            refine br_both h (fun hb h => ?_) (fun hb h => ?_)
            · iterate 2 refine req_intro rfl ?_
              exact req_intro rfl h
            · iterate 4 refine req_intro rfl ?_
              refine br_both h (fun hb h => ?_) (fun hb h => ?_)
              · refine req_intro rfl ?_
                exact req_intro rfl h
              · refine req_intro rfl ?_
                exact req_intro rfl h
      · refine req_intro rfl ?_
        exact req_intro rfl h
theorem curfewlaw08_NextTurns_ok : FxOk Tryd.prog gsT 4 (.cons (.agg (.cons (.int .u64) (.cons (.int .u64) (.cons (.int .u64) (.cons (.int .u64) (.one (.int .u64))))))) (.one (.int .i64))) .bool fun x y => curfewlaw08_NextTurns_R (x.1.1) (x.1.2.1) (x.1.2.2.1) (x.1.2.2.2.1) (x.1.2.2.2.2) (x.2) y := fx_of (c := curfewlaw08_NextTurns_cx) (ty_ok rfl) (eq_ok rfl) curfewlaw08_NextTurns_fns follows_ok (ok := okT) (lp := lpT) (n := 60) lp_ok (enters Tryd.func4 (by kernel_rfl) rfl) (fun y => ⟨_, rfl⟩) fun x y h => curfewlaw08_NextTurns_run _ _ _ _ _ _ y h
end Go.Proofs.YtiffoefhadgdnaaDoor
