/- What Go functions come to (printed by gb.py). -/
import Derived.Test.YtiffoefhadgdnaaDoorBj
import Derived.Test.YtiffoefhadgdnaaDoorProg
namespace Go.Proofs.YtiffoefhadgdnaaDoor
open Go Go.B Go.RowKit
set_option linter.unusedVariables false
set_option linter.unusedSimpArgs false
set_option maxRecDepth 100000
attribute [local irreducible] Go.B.acall Go.B.acode
def tyT : List (Nat × TyE) := [(1, ⟨.other, 1, [(V.old .nilFunc)], 8, none⟩),
  (2, ⟨.int .i64, 1, [(V.int .i64 0)], 8, some (.int .i64)⟩),
  (3, ⟨.int .i64, 1, [(V.int .i64 0)], 8, some (.int .i64)⟩),
  (4, ⟨.bool, 1, [(V.bool false)], 1, some .bool⟩),
  (5, ⟨.int .u8, 1, [(V.int .u8 0)], 1, some (.int .u8)⟩),
  (6, ⟨.int .u8, 1, [(V.int .u8 0)], 1, some (.int .u8)⟩),
  (7, ⟨.st [(2, 0), (3, 1), (4, 2), (6, 3)], 4, [(V.int .i64 0), (V.int .i64 0), (V.bool false), (V.int .u8 0)], 24, some (.pr (.int .i64) (.pr (.int .i64) (.pr .bool (.int .u8))))⟩),
  (8, ⟨.st [(2, 0), (3, 1), (4, 2), (6, 3)], 4, [(V.int .i64 0), (V.int .i64 0), (V.bool false), (V.int .u8 0)], 24, some (.pr (.int .i64) (.pr (.int .i64) (.pr .bool (.int .u8))))⟩),
  (9, ⟨.str, 1, [(V.str ⟨#[]⟩)], 16, some .str⟩),
  (10, ⟨.str, 1, [(V.str ⟨#[]⟩)], 16, some .str⟩),
  (11, ⟨.str, 1, [(V.str ⟨#[]⟩)], 16, some .str⟩),
  (12, ⟨.int .u64, 1, [(V.int .u64 0)], 8, some (.int .u64)⟩),
  (13, ⟨.st [(9, 0), (12, 1)], 2, [(V.str ⟨#[]⟩), (V.int .u64 0)], 24, some (.pr .str (.int .u64))⟩),
  (14, ⟨.st [(9, 0), (12, 1)], 2, [(V.str ⟨#[]⟩), (V.int .u64 0)], 24, some (.pr .str (.int .u64))⟩),
  (15, ⟨.ptr 189, 1, [(V.old (.pointer none))], 8, none⟩),
  (16, ⟨.ptr 192, 1, [(V.old (.pointer none))], 8, none⟩),
  (17, ⟨.ptr 201, 1, [(V.old (.pointer none))], 8, none⟩),
  (18, ⟨.st [(17, 0)], 1, [(V.old (.pointer none))], 8, none⟩),
  (19, ⟨.st [(17, 0)], 1, [(V.old (.pointer none))], 8, none⟩),
  (21, ⟨.int .i32, 1, [(V.int .i32 0)], 4, some (.int .i32)⟩),
  (22, ⟨.int .u64, 1, [(V.int .u64 0)], 8, some (.int .u64)⟩),
  (23, ⟨.int .u64, 1, [(V.int .u64 0)], 8, some (.int .u64)⟩),
  (24, ⟨.st [(23, 0), (23, 1), (23, 2), (23, 3), (23, 4)], 5, [(V.int .u64 0), (V.int .u64 0), (V.int .u64 0), (V.int .u64 0), (V.int .u64 0)], 40, some (.pr (.int .u64) (.pr (.int .u64) (.pr (.int .u64) (.pr (.int .u64) (.int .u64)))))⟩),
  (25, ⟨.st [(23, 0), (23, 1), (23, 2), (23, 3), (23, 4)], 5, [(V.int .u64 0), (V.int .u64 0), (V.int .u64 0), (V.int .u64 0), (V.int .u64 0)], 40, some (.pr (.int .u64) (.pr (.int .u64) (.pr (.int .u64) (.pr (.int .u64) (.int .u64)))))⟩),
  (26, ⟨.arr 2 2, 2, [(V.int .i64 0), (V.int .i64 0)], 16, some (.pr (.int .i64) (.int .i64))⟩),
  (27, ⟨.slc 3, 1, [(V.old (.slice none 0 0))], 24, some (.sl (.int .i64))⟩),
  (28, ⟨.other, 1, [(V.old .nilFunc)], 8, none⟩),
  (29, ⟨.slc 2, 1, [(V.old (.slice none 0 0))], 24, some (.sl (.int .i64))⟩),
  (30, ⟨.int .i64, 1, [(V.int .i64 0)], 8, some (.int .i64)⟩),
  (32, ⟨.other, 1, [(V.old .nilFunc)], 8, none⟩),
  (33, ⟨.other, 1, [(V.old .nilFunc)], 8, none⟩),
  (34, ⟨.other, 1, [(V.old .nilFunc)], 8, none⟩),
  (35, ⟨.other, 1, [(V.old .nilFunc)], 8, none⟩),
  (36, ⟨.other, 1, [(V.old .nilFunc)], 8, none⟩),
  (38, ⟨.other, 1, [(V.old .nilFunc)], 8, none⟩),
  (39, ⟨.other, 1, [(V.old .nilFunc)], 8, none⟩),
  (40, ⟨.other, 1, [(V.old .nilFunc)], 8, none⟩),
  (41, ⟨.other, 1, [(V.old .nilFunc)], 8, none⟩),
  (42, ⟨.slc 22, 1, [(V.old (.slice none 0 0))], 24, some (.sl (.int .u64))⟩),
  (43, ⟨.other, 1, [(V.old .nilFunc)], 8, none⟩),
  (44, ⟨.int .u32, 1, [(V.int .u32 0)], 4, some (.int .u32)⟩),
  (45, ⟨.st [(44, 0), (4, 1), (25, 2), (2, 7), (3, 8), (3, 9), (3, 10)], 11, [(V.int .u32 0), (V.bool false), (V.int .u64 0), (V.int .u64 0), (V.int .u64 0), (V.int .u64 0), (V.int .u64 0), (V.int .i64 0), (V.int .i64 0), (V.int .i64 0), (V.int .i64 0)], 80, some (.pr (.int .u32) (.pr .bool (.pr (.pr (.int .u64) (.pr (.int .u64) (.pr (.int .u64) (.pr (.int .u64) (.int .u64))))) (.pr (.int .i64) (.pr (.int .i64) (.pr (.int .i64) (.int .i64)))))))⟩),
  (46, ⟨.st [(44, 0), (4, 1), (25, 2), (2, 7), (3, 8), (3, 9), (3, 10)], 11, [(V.int .u32 0), (V.bool false), (V.int .u64 0), (V.int .u64 0), (V.int .u64 0), (V.int .u64 0), (V.int .u64 0), (V.int .i64 0), (V.int .i64 0), (V.int .i64 0), (V.int .i64 0)], 80, some (.pr (.int .u32) (.pr .bool (.pr (.pr (.int .u64) (.pr (.int .u64) (.pr (.int .u64) (.pr (.int .u64) (.int .u64))))) (.pr (.int .i64) (.pr (.int .i64) (.pr (.int .i64) (.int .i64)))))))⟩),
  (47, ⟨.st [(22, 0), (2, 1), (3, 2)], 3, [(V.int .u64 0), (V.int .i64 0), (V.int .i64 0)], 24, some (.pr (.int .u64) (.pr (.int .i64) (.int .i64)))⟩),
  (48, ⟨.st [(22, 0), (2, 1), (3, 2)], 3, [(V.int .u64 0), (V.int .i64 0), (V.int .i64 0)], 24, some (.pr (.int .u64) (.pr (.int .i64) (.int .i64)))⟩),
  (49, ⟨.st [(46, 0), (4, 11), (2, 12), (48, 13), (29, 16)], 17, [(V.int .u32 0), (V.bool false), (V.int .u64 0), (V.int .u64 0), (V.int .u64 0), (V.int .u64 0), (V.int .u64 0), (V.int .i64 0), (V.int .i64 0), (V.int .i64 0), (V.int .i64 0), (V.bool false), (V.int .i64 0), (V.int .u64 0), (V.int .i64 0), (V.int .i64 0), (V.old (.slice none 0 0))], 144, some (.pr (.pr (.int .u32) (.pr .bool (.pr (.pr (.int .u64) (.pr (.int .u64) (.pr (.int .u64) (.pr (.int .u64) (.int .u64))))) (.pr (.int .i64) (.pr (.int .i64) (.pr (.int .i64) (.int .i64))))))) (.pr .bool (.pr (.int .i64) (.pr (.pr (.int .u64) (.pr (.int .i64) (.int .i64))) (.sl (.int .i64))))))⟩),
  (50, ⟨.st [(46, 0), (4, 11), (2, 12), (48, 13), (29, 16)], 17, [(V.int .u32 0), (V.bool false), (V.int .u64 0), (V.int .u64 0), (V.int .u64 0), (V.int .u64 0), (V.int .u64 0), (V.int .i64 0), (V.int .i64 0), (V.int .i64 0), (V.int .i64 0), (V.bool false), (V.int .i64 0), (V.int .u64 0), (V.int .i64 0), (V.int .i64 0), (V.old (.slice none 0 0))], 144, some (.pr (.pr (.int .u32) (.pr .bool (.pr (.pr (.int .u64) (.pr (.int .u64) (.pr (.int .u64) (.pr (.int .u64) (.int .u64))))) (.pr (.int .i64) (.pr (.int .i64) (.pr (.int .i64) (.int .i64))))))) (.pr .bool (.pr (.int .i64) (.pr (.pr (.int .u64) (.pr (.int .i64) (.int .i64))) (.sl (.int .i64))))))⟩),
  (51, ⟨.slc 58, 1, [(V.old (.slice none 0 0))], 24, some (.sl (.pr (.int .i64) (.pr (.int .i64) (.pr (.int .u64) (.pr (.int .u64) (.pr .bool .bool))))))⟩),
  (52, ⟨.other, 1, [(V.old .nilFunc)], 8, none⟩),
  (53, ⟨.other, 1, [(V.old .nilFunc)], 8, none⟩),
  (54, ⟨.slc 63, 1, [(V.old (.slice none 0 0))], 24, some (.sl (.pr (.int .u64) (.pr (.int .u32) (.pr (.int .i64) (.int .i64)))))⟩),
  (56, ⟨.other, 1, [(V.old .nilFunc)], 8, none⟩),
  (57, ⟨.st [(3, 0), (2, 1), (22, 2), (22, 3), (4, 4), (4, 5)], 6, [(V.int .i64 0), (V.int .i64 0), (V.int .u64 0), (V.int .u64 0), (V.bool false), (V.bool false)], 40, some (.pr (.int .i64) (.pr (.int .i64) (.pr (.int .u64) (.pr (.int .u64) (.pr .bool .bool)))))⟩),
  (58, ⟨.st [(3, 0), (2, 1), (22, 2), (22, 3), (4, 4), (4, 5)], 6, [(V.int .i64 0), (V.int .i64 0), (V.int .u64 0), (V.int .u64 0), (V.bool false), (V.bool false)], 40, some (.pr (.int .i64) (.pr (.int .i64) (.pr (.int .u64) (.pr (.int .u64) (.pr .bool .bool)))))⟩),
  (59, ⟨.int .u64, 1, [(V.int .u64 0)], 8, some (.int .u64)⟩),
  (61, ⟨.other, 1, [(V.old .nilFunc)], 8, none⟩),
  (62, ⟨.st [(22, 0), (44, 1), (2, 2), (3, 3)], 4, [(V.int .u64 0), (V.int .u32 0), (V.int .i64 0), (V.int .i64 0)], 32, some (.pr (.int .u64) (.pr (.int .u32) (.pr (.int .i64) (.int .i64))))⟩),
  (63, ⟨.st [(22, 0), (44, 1), (2, 2), (3, 3)], 4, [(V.int .u64 0), (V.int .u32 0), (V.int .i64 0), (V.int .i64 0)], 32, some (.pr (.int .u64) (.pr (.int .u32) (.pr (.int .i64) (.int .i64))))⟩),
  (64, ⟨.other, 1, [(V.old .nilFunc)], 8, none⟩),
  (66, ⟨.other, 1, [(V.old .nilFunc)], 8, none⟩),
  (67, ⟨.other, 1, [(V.old .nilFunc)], 8, none⟩),
  (68, ⟨.other, 1, [(V.old .nilFunc)], 8, none⟩),
  (69, ⟨.other, 1, [(V.old .nilFunc)], 8, none⟩),
  (70, ⟨.other, 1, [(V.old .nilFunc)], 8, none⟩),
  (71, ⟨.other, 1, [(V.old .nilFunc)], 8, none⟩),
  (72, ⟨.arr 3 2, 3, [(V.int .i64 0), (V.int .i64 0), (V.int .i64 0)], 24, some (.pr (.int .i64) (.pr (.int .i64) (.int .i64)))⟩),
  (73, ⟨.other, 1, [(V.old .nilFunc)], 8, none⟩),
  (74, ⟨.other, 1, [(V.old .nilFunc)], 8, none⟩),
  (75, ⟨.other, 1, [(V.old .nilFunc)], 8, none⟩),
  (76, ⟨.arr 5 23, 5, [(V.int .u64 0), (V.int .u64 0), (V.int .u64 0), (V.int .u64 0), (V.int .u64 0)], 40, some (.pr (.int .u64) (.pr (.int .u64) (.pr (.int .u64) (.pr (.int .u64) (.int .u64)))))⟩),
  (77, ⟨.other, 1, [(V.old .nilFunc)], 8, none⟩),
  (78, ⟨.other, 1, [(V.old .nilFunc)], 8, none⟩),
  (79, ⟨.other, 1, [(V.old .nilFunc)], 8, none⟩),
  (80, ⟨.other, 1, [(V.old .nilFunc)], 8, none⟩),
  (81, ⟨.other, 1, [(V.old .nilFunc)], 8, none⟩),
  (82, ⟨.st [(3, 0), (3, 1), (3, 2)], 3, [(V.int .i64 0), (V.int .i64 0), (V.int .i64 0)], 24, some (.pr (.int .i64) (.pr (.int .i64) (.int .i64)))⟩),
  (83, ⟨.st [(3, 0), (3, 1), (3, 2)], 3, [(V.int .i64 0), (V.int .i64 0), (V.int .i64 0)], 24, some (.pr (.int .i64) (.pr (.int .i64) (.int .i64)))⟩),
  (84, ⟨.other, 1, [(V.old .nilFunc)], 8, none⟩),
  (85, ⟨.other, 1, [(V.old .nilFunc)], 8, none⟩),
  (86, ⟨.other, 1, [(V.old .nilFunc)], 8, none⟩),
  (87, ⟨.other, 1, [(V.old .nilFunc)], 8, none⟩),
  (88, ⟨.other, 1, [(V.old .nilFunc)], 8, none⟩),
  (89, ⟨.ptr 23, 1, [(V.old (.pointer none))], 8, none⟩),
  (90, ⟨.arr 5 89, 5, [(V.old (.pointer none)), (V.old (.pointer none)), (V.old (.pointer none)), (V.old (.pointer none)), (V.old (.pointer none))], 40, none⟩),
  (91, ⟨.other, 1, [(V.old .nilFunc)], 8, none⟩),
  (92, ⟨.ptr 25, 1, [(V.old (.pointer none))], 8, none⟩),
  (93, ⟨.other, 1, [(V.old .nilFunc)], 8, none⟩),
  (94, ⟨.st [(83, 0), (3, 3), (3, 4), (3, 5)], 6, [(V.int .i64 0), (V.int .i64 0), (V.int .i64 0), (V.int .i64 0), (V.int .i64 0), (V.int .i64 0)], 48, some (.pr (.pr (.int .i64) (.pr (.int .i64) (.int .i64))) (.pr (.int .i64) (.pr (.int .i64) (.int .i64))))⟩),
  (95, ⟨.st [(83, 0), (3, 3), (3, 4), (3, 5)], 6, [(V.int .i64 0), (V.int .i64 0), (V.int .i64 0), (V.int .i64 0), (V.int .i64 0), (V.int .i64 0)], 48, some (.pr (.pr (.int .i64) (.pr (.int .i64) (.int .i64))) (.pr (.int .i64) (.pr (.int .i64) (.int .i64))))⟩),
  (97, ⟨.other, 1, [(V.old .nilFunc)], 8, none⟩),
  (98, ⟨.other, 1, [(V.old .nilFunc)], 8, none⟩),
  (99, ⟨.other, 1, [(V.old .nilFunc)], 8, none⟩),
  (100, ⟨.other, 1, [(V.old .nilFunc)], 8, none⟩),
  (101, ⟨.other, 1, [(V.old .nilFunc)], 8, none⟩),
  (102, ⟨.other, 1, [(V.old .nilFunc)], 8, none⟩),
  (103, ⟨.other, 1, [(V.old .nilFunc)], 8, none⟩),
  (104, ⟨.other, 1, [(V.old .nilFunc)], 8, none⟩),
  (105, ⟨.ptr 110, 1, [(V.old (.pointer none))], 8, none⟩),
  (106, ⟨.other, 1, [(V.old .nilFunc)], 8, none⟩),
  (107, ⟨.other, 1, [(V.old .nilFunc)], 8, none⟩),
  (108, ⟨.arr 1 63, 4, [(V.int .u64 0), (V.int .u32 0), (V.int .i64 0), (V.int .i64 0)], 32, some (.pr (.int .u64) (.pr (.int .u32) (.pr (.int .i64) (.int .i64))))⟩),
  (109, ⟨.st [(50, 0), (108, 17), (3, 21)], 22, [(V.int .u32 0), (V.bool false), (V.int .u64 0), (V.int .u64 0), (V.int .u64 0), (V.int .u64 0), (V.int .u64 0), (V.int .i64 0), (V.int .i64 0), (V.int .i64 0), (V.int .i64 0), (V.bool false), (V.int .i64 0), (V.int .u64 0), (V.int .i64 0), (V.int .i64 0), (V.old (.slice none 0 0)), (V.int .u64 0), (V.int .u32 0), (V.int .i64 0), (V.int .i64 0), (V.int .i64 0)], 184, some (.pr (.pr (.pr (.int .u32) (.pr .bool (.pr (.pr (.int .u64) (.pr (.int .u64) (.pr (.int .u64) (.pr (.int .u64) (.int .u64))))) (.pr (.int .i64) (.pr (.int .i64) (.pr (.int .i64) (.int .i64))))))) (.pr .bool (.pr (.int .i64) (.pr (.pr (.int .u64) (.pr (.int .i64) (.int .i64))) (.sl (.int .i64)))))) (.pr (.pr (.int .u64) (.pr (.int .u32) (.pr (.int .i64) (.int .i64)))) (.int .i64)))⟩),
  (110, ⟨.st [(50, 0), (108, 17), (3, 21)], 22, [(V.int .u32 0), (V.bool false), (V.int .u64 0), (V.int .u64 0), (V.int .u64 0), (V.int .u64 0), (V.int .u64 0), (V.int .i64 0), (V.int .i64 0), (V.int .i64 0), (V.int .i64 0), (V.bool false), (V.int .i64 0), (V.int .u64 0), (V.int .i64 0), (V.int .i64 0), (V.old (.slice none 0 0)), (V.int .u64 0), (V.int .u32 0), (V.int .i64 0), (V.int .i64 0), (V.int .i64 0)], 184, some (.pr (.pr (.pr (.int .u32) (.pr .bool (.pr (.pr (.int .u64) (.pr (.int .u64) (.pr (.int .u64) (.pr (.int .u64) (.int .u64))))) (.pr (.int .i64) (.pr (.int .i64) (.pr (.int .i64) (.int .i64))))))) (.pr .bool (.pr (.int .i64) (.pr (.pr (.int .u64) (.pr (.int .i64) (.int .i64))) (.sl (.int .i64)))))) (.pr (.pr (.int .u64) (.pr (.int .u32) (.pr (.int .i64) (.int .i64)))) (.int .i64)))⟩),
  (111, ⟨.other, 1, [(V.old .nilFunc)], 8, none⟩),
  (112, ⟨.other, 1, [(V.old .nilFunc)], 8, none⟩),
  (113, ⟨.other, 1, [(V.old .nilFunc)], 8, none⟩),
  (114, ⟨.other, 1, [(V.old .nilFunc)], 8, none⟩),
  (115, ⟨.arr 3 114, 3, [(V.old .nilFunc), (V.old .nilFunc), (V.old .nilFunc)], 24, none⟩),
  (116, ⟨.other, 1, [(V.old .nilFunc)], 8, none⟩),
  (117, ⟨.other, 1, [(V.old .nilFunc)], 8, none⟩),
  (118, ⟨.st [(117, 0), (117, 1)], 2, [(V.old .nilFunc), (V.old .nilFunc)], 16, none⟩),
  (119, ⟨.st [(117, 0), (117, 1)], 2, [(V.old .nilFunc), (V.old .nilFunc)], 16, none⟩),
  (121, ⟨.other, 1, [(V.old .nilFunc)], 8, none⟩),
  (122, ⟨.other, 1, [(V.old .nilFunc)], 8, none⟩),
  (123, ⟨.other, 1, [(V.old .nilFunc)], 8, none⟩),
  (124, ⟨.other, 1, [(V.old .nilFunc)], 8, none⟩),
  (125, ⟨.other, 1, [(V.old .nilFunc)], 8, none⟩),
  (126, ⟨.other, 1, [(V.old .nilFunc)], 8, none⟩),
  (127, ⟨.other, 1, [(V.old .nilFunc)], 8, none⟩),
  (128, ⟨.other, 1, [(V.old .nilFunc)], 8, none⟩),
  (129, ⟨.other, 1, [(V.old .nilFunc)], 8, none⟩),
  (130, ⟨.other, 1, [(V.old .nilFunc)], 8, none⟩),
  (131, ⟨.other, 1, [(V.old .nilFunc)], 8, none⟩),
  (132, ⟨.other, 1, [(V.old .nilFunc)], 8, none⟩),
  (133, ⟨.other, 1, [(V.old .nilFunc)], 8, none⟩),
  (134, ⟨.other, 1, [(V.old .nilFunc)], 8, none⟩),
  (136, ⟨.other, 1, [(V.old .nilFunc)], 8, none⟩),
  (138, ⟨.other, 1, [(V.old .nilFunc)], 8, none⟩),
  (139, ⟨.other, 1, [(V.old .nilFunc)], 8, none⟩),
  (140, ⟨.other, 1, [(V.old .nilFunc)], 8, none⟩),
  (141, ⟨.other, 1, [(V.old .nilFunc)], 8, none⟩),
  (142, ⟨.other, 1, [(V.old .nilFunc)], 8, none⟩),
  (143, ⟨.other, 1, [(V.old .nilFunc)], 8, none⟩),
  (144, ⟨.int .i64, 1, [(V.int .i64 0)], 8, some (.int .i64)⟩),
  (146, ⟨.other, 1, [(V.old .nilFunc)], 8, none⟩),
  (147, ⟨.other, 1, [(V.old .nilFunc)], 8, none⟩),
  (148, ⟨.other, 1, [(V.old .nilFunc)], 8, none⟩),
  (149, ⟨.other, 1, [(V.old .nilFunc)], 8, none⟩),
  (151, ⟨.other, 1, [(V.old .nilFunc)], 8, none⟩),
  (152, ⟨.other, 1, [(V.old .nilFunc)], 8, none⟩),
  (153, ⟨.other, 1, [(V.old .nilFunc)], 8, none⟩),
  (155, ⟨.other, 1, [(V.old .nilFunc)], 8, none⟩),
  (156, ⟨.st [(3, 0), (3, 1)], 2, [(V.int .i64 0), (V.int .i64 0)], 16, some (.pr (.int .i64) (.int .i64))⟩),
  (157, ⟨.st [(3, 0), (3, 1)], 2, [(V.int .i64 0), (V.int .i64 0)], 16, some (.pr (.int .i64) (.int .i64))⟩),
  (158, ⟨.other, 1, [(V.old .nilFunc)], 8, none⟩),
  (159, ⟨.other, 1, [(V.old .nilFunc)], 8, none⟩),
  (160, ⟨.other, 1, [(V.old .nilFunc)], 8, none⟩),
  (161, ⟨.other, 1, [(V.old .nilFunc)], 8, none⟩),
  (162, ⟨.arr 12 3, 12, [(V.int .i64 0), (V.int .i64 0), (V.int .i64 0), (V.int .i64 0), (V.int .i64 0), (V.int .i64 0), (V.int .i64 0), (V.int .i64 0), (V.int .i64 0), (V.int .i64 0), (V.int .i64 0), (V.int .i64 0)], 96, none⟩),
  (163, ⟨.other, 1, [(V.old .nilFunc)], 8, none⟩),
  (164, ⟨.slc 23, 1, [(V.old (.slice none 0 0))], 24, some (.sl (.int .u64))⟩),
  (165, ⟨.other, 1, [(V.old .nilFunc)], 8, none⟩),
  (166, ⟨.arr 5 157, 10, [(V.int .i64 0), (V.int .i64 0), (V.int .i64 0), (V.int .i64 0), (V.int .i64 0), (V.int .i64 0), (V.int .i64 0), (V.int .i64 0), (V.int .i64 0), (V.int .i64 0)], 80, some (.pr (.pr (.int .i64) (.int .i64)) (.pr (.pr (.int .i64) (.int .i64)) (.pr (.pr (.int .i64) (.int .i64)) (.pr (.pr (.int .i64) (.int .i64)) (.pr (.int .i64) (.int .i64))))))⟩),
  (167, ⟨.st [(3, 0), (3, 1), (3, 2)], 3, [(V.int .i64 0), (V.int .i64 0), (V.int .i64 0)], 24, some (.pr (.int .i64) (.pr (.int .i64) (.int .i64)))⟩),
  (168, ⟨.arr 4 167, 12, [(V.int .i64 0), (V.int .i64 0), (V.int .i64 0), (V.int .i64 0), (V.int .i64 0), (V.int .i64 0), (V.int .i64 0), (V.int .i64 0), (V.int .i64 0), (V.int .i64 0), (V.int .i64 0), (V.int .i64 0)], 96, some (.pr (.pr (.int .i64) (.pr (.int .i64) (.int .i64))) (.pr (.pr (.int .i64) (.pr (.int .i64) (.int .i64))) (.pr (.pr (.int .i64) (.pr (.int .i64) (.int .i64))) (.pr (.int .i64) (.pr (.int .i64) (.int .i64))))))⟩),
  (169, ⟨.other, 1, [(V.old .nilFunc)], 8, none⟩),
  (170, ⟨.other, 1, [(V.old .nilFunc)], 8, none⟩),
  (171, ⟨.int .u64, 1, [(V.int .u64 0)], 8, some (.int .u64)⟩),
  (172, ⟨.other, 1, [(V.old .nilFunc)], 8, none⟩),
  (173, ⟨.other, 1, [(V.old .nilFunc)], 8, none⟩),
  (174, ⟨.other, 1, [(V.old .nilFunc)], 8, none⟩),
  (175, ⟨.ptr 3, 1, [(V.old (.pointer none))], 8, none⟩),
  (176, ⟨.other, 1, [(V.old .nilFunc)], 8, none⟩),
  (177, ⟨.other, 1, [(V.old .nilFunc)], 8, none⟩),
  (179, ⟨.other, 1, [(V.old .nilFunc)], 8, none⟩),
  (180, ⟨.ptr 171, 1, [(V.old (.pointer none))], 8, none⟩),
  (182, ⟨.other, 1, [(V.old .nilFunc)], 8, none⟩),
  (183, ⟨.other, 1, [(V.old .nilFunc)], 8, none⟩),
  (184, ⟨.other, 1, [(V.old .nilFunc)], 8, none⟩),
  (185, ⟨.arr 13 3, 13, [(V.int .i64 0), (V.int .i64 0), (V.int .i64 0), (V.int .i64 0), (V.int .i64 0), (V.int .i64 0), (V.int .i64 0), (V.int .i64 0), (V.int .i64 0), (V.int .i64 0), (V.int .i64 0), (V.int .i64 0), (V.int .i64 0)], 104, none⟩),
  (186, ⟨.arr 64 5, 64, [(V.int .u8 0), (V.int .u8 0), (V.int .u8 0), (V.int .u8 0), (V.int .u8 0), (V.int .u8 0), (V.int .u8 0), (V.int .u8 0), (V.int .u8 0), (V.int .u8 0), (V.int .u8 0), (V.int .u8 0), (V.int .u8 0), (V.int .u8 0), (V.int .u8 0), (V.int .u8 0), (V.int .u8 0), (V.int .u8 0), (V.int .u8 0), (V.int .u8 0), (V.int .u8 0), (V.int .u8 0), (V.int .u8 0), (V.int .u8 0), (V.int .u8 0), (V.int .u8 0), (V.int .u8 0), (V.int .u8 0), (V.int .u8 0), (V.int .u8 0), (V.int .u8 0), (V.int .u8 0), (V.int .u8 0), (V.int .u8 0), (V.int .u8 0), (V.int .u8 0), (V.int .u8 0), (V.int .u8 0), (V.int .u8 0), (V.int .u8 0), (V.int .u8 0), (V.int .u8 0), (V.int .u8 0), (V.int .u8 0), (V.int .u8 0), (V.int .u8 0), (V.int .u8 0), (V.int .u8 0), (V.int .u8 0), (V.int .u8 0), (V.int .u8 0), (V.int .u8 0), (V.int .u8 0), (V.int .u8 0), (V.int .u8 0), (V.int .u8 0), (V.int .u8 0), (V.int .u8 0), (V.int .u8 0), (V.int .u8 0), (V.int .u8 0), (V.int .u8 0), (V.int .u8 0), (V.int .u8 0)], 64, none⟩),
  (187, ⟨.other, 1, [(V.old .nilFunc)], 8, none⟩),
  (188, ⟨.st [(17, 0), (17, 1), (17, 2), (9, 3)], 4, [(V.old (.pointer none)), (V.old (.pointer none)), (V.old (.pointer none)), (V.str ⟨#[]⟩)], 40, none⟩),
  (189, ⟨.st [(17, 0), (17, 1), (17, 2), (9, 3)], 4, [(V.old (.pointer none)), (V.old (.pointer none)), (V.old (.pointer none)), (V.str ⟨#[]⟩)], 40, none⟩),
  (193, ⟨.other, 1, [(V.old .nilFunc)], 8, none⟩),
  (194, ⟨.int .u8, 1, [(V.int .u8 0)], 1, some (.int .u8)⟩),
  (195, ⟨.int .u8, 1, [(V.int .u8 0)], 1, some (.int .u8)⟩),
  (196, ⟨.other, 1, [(V.old .nilFunc)], 8, none⟩),
  (197, ⟨.ptr 5, 1, [(V.old (.pointer none))], 8, none⟩),
  (198, ⟨.int .i32, 1, [(V.int .i32 0)], 4, some (.int .i32)⟩),
  (199, ⟨.int .i32, 1, [(V.int .i32 0)], 4, some (.int .i32)⟩),
  (200, ⟨.st [(12, 0), (12, 1), (44, 2), (194, 3), (5, 4), (5, 5), (195, 6), (196, 7), (197, 8), (198, 9), (199, 10)], 11, [(V.int .u64 0), (V.int .u64 0), (V.int .u32 0), (V.int .u8 0), (V.int .u8 0), (V.int .u8 0), (V.int .u8 0), (V.old .nilFunc), (V.old (.pointer none)), (V.int .i32 0), (V.int .i32 0)], 48, none⟩),
  (201, ⟨.st [(12, 0), (12, 1), (44, 2), (194, 3), (5, 4), (5, 5), (195, 6), (196, 7), (197, 8), (198, 9), (199, 10)], 11, [(V.int .u64 0), (V.int .u64 0), (V.int .u32 0), (V.int .u8 0), (V.int .u8 0), (V.int .u8 0), (V.int .u8 0), (V.old .nilFunc), (V.old (.pointer none)), (V.int .i32 0), (V.int .i32 0)], 48, none⟩),
  (202, ⟨.other, 1, [(V.old .nilFunc)], 8, none⟩)]
def endsL : List Int := [0, 59, 0, 23, 1, 31, 1, 12, 0, 6]
def longL : List Int := [0, 31, 28, 31, 30, 31, 30, 31, 31, 30, 31, 30, 31]
def dbL : List Int := [0, 1, 56, 2, 57, 49, 28, 3, 61, 58, 42, 50, 38, 29, 17, 4, 62, 47, 59, 36, 45, 43, 51, 22, 53, 39, 33, 30, 24, 18, 12, 5, 63, 55, 48, 27, 60, 41, 37, 16, 46, 35, 44, 21, 52, 32, 23, 11, 54, 26, 40, 15, 34, 20, 31, 10, 25, 14, 19, 9, 13, 8, 7, 6]
def gsT : List (Nat × CF) := [(0, .int .i64 endsL), (1, .int .i64 longL), (2, .int .u8 dbL)]
def eqT : List (Nat × (List V → List V → Option Bool)) := eqsOf tyT [25, 46, 48, 63]
def okT : FuncId → Nat → Bool := fun _ => kept
def lpT : Nat → FuncId → Nat → Nat → Lp := fun _ _ _ _ => .unroll 70
theorem lp_ok {c : Cx} : LpOk c okT lpT := fun _ _ => ⟨fun _ _ _ _ _ h => (by cases h), fun _ _ _ _ _ h => (by cases h)⟩
theorem ty_ok {c : Cx} (h : c.ty = tyT) : TyOk Tryd.prog c := TyOk_of (by rw [h]; kernel_rfl)
theorem eq_ok {c : Cx} (h : c.eqs = eqT) : EqOk Tryd.prog c := eqsOf_ok (ty := tyT) (ss := [25, 46, 48, 63]) (ty_ok (c := ⟨tyT, [], [], []⟩) rfl) (by kernel_rfl) h
theorem follows_ok : Tryd.prog.follows .mixedOrders = true := by kernel_rfl
noncomputable def field_there_cx : Cx := ⟨tyT, [(81, .body Tryd.f81)], gsT, eqT⟩
theorem field_there_fns : FnsOk Tryd.prog field_there_cx := Fns_assoc ⟨body_ent Tryd.func81 (by kernel_rfl) (by kernel_rfl), trivial⟩
def field_there_R (a0 : Int) (y : Bool) : Prop :=
  (br (decide (a0 ≥ 0)) ((decide (a0 < 5)) = y) (false = y))
theorem field_there_tree (a0 : Int) (y : Bool) : acall field_there_cx okT lpT 60 (.fn 81 [] []) [(V.int .i64 a0)] [] (leafK .bool y) =
    (req true (req true (req true (req true (br (decide (a0 ≥ 0)) (req true (req true (req true (req true (req true ((decide (a0 < 5)) = y)))))) (req true (req true (req true (false = y))))))))) := by kernel_rfl
theorem field_there_run (a0 : Int) (y : Bool) (h : field_there_R a0 y) : acall field_there_cx okT lpT 60 (.fn 81 [] []) [(V.int .i64 a0)] [] (leafK .bool y) := by
  refine cast (field_there_tree a0 y).symm ?_
  unfold field_there_R at h
  iterate 4 refine req_intro rfl ?_
  refine br_both h (fun hb h => ?_) (fun hb h => ?_)
  · iterate 4 refine req_intro rfl ?_
    exact req_intro rfl h
  · iterate 2 refine req_intro rfl ?_
    exact req_intro rfl h
theorem field_there_ok : FxOk Tryd.prog gsT 81 (.one (.int .i64)) .bool fun x y => field_there_R x y := fx_of (c := field_there_cx) (ty_ok rfl) (eq_ok rfl) field_there_fns follows_ok (ok := okT) (lp := lpT) (n := 60) lp_ok (enters Tryd.func81 (by kernel_rfl) rfl) (fun y => ⟨_, rfl⟩) fun x y h => field_there_run _ y h
noncomputable def mask_Less_cx : Cx := ⟨tyT, [(82, .body Tryd.f82),
  (109, .body Tryd.f109),
  (110, .body Tryd.f110)], gsT, eqT⟩
theorem mask_Less_fns : FnsOk Tryd.prog mask_Less_cx := Fns_assoc ⟨body_ent Tryd.func82 (by kernel_rfl) (by kernel_rfl), body_ent Tryd.func109 (by kernel_rfl) (by kernel_rfl), body_ent Tryd.func110 (by kernel_rfl) (by kernel_rfl), trivial⟩
noncomputable def mask_Less_l0_body : Code := subC [1, 1, 0, 1, 0, 0] (bodyOf Tryd.f109)
abbrev mask_Less_l0_Z : Type := Int × Int × Int × Int
abbrev mask_Less_l0_Y : Type := Int
abbrev mask_Less_l0_C : Type := Unit
abbrev mask_Less_l0_Q : Type := Unit
noncomputable def mask_Less_l0_st (z1 : mask_Less_l0_Z) (z1q : mask_Less_l0_Q) (z1c : mask_Less_l0_C) : S := ⟨[(1, (V.fn 110 [] [])), (4, (V.int .u64 0)), (5, (V.int .u64 (z1.2.2.1))), (8, (V.slc 0 0 2 2)), (9, (V.int .i64 2)), (10, (V.int .i64 (z1.2.2.2)))], [(Blk.cells [(V.int .u64 (z1.1)), (V.int .u64 (z1.2.1))])], []⟩
def mask_Less_l0_K (K : Ret → S → Prop) (z1 : mask_Less_l0_Z) (z1q : mask_Less_l0_Q) (y2 : mask_Less_l0_Y) : Prop := K (.exit 0) ⟨[(4, (V.int .u64 0)), (5, (V.int .u64 y2))], [(Blk.cells [(V.int .u64 (z1.1)), (V.int .u64 (z1.2.1))])], []⟩
def mask_Less_l0 : Nat → mask_Less_l0_Z → mask_Less_l0_Y → Prop
  | 0, _, _ => False
  | k + 1, z1, y2_ => (br (decide ((z1.2.2.2) < 2)) (req ((decide (0 ≤ (z1.2.2.2))) && (decide ((z1.2.2.2) < 2))) (req (Nat.blt (offN 0 (z1.2.2.2) 1) 2) (br ((z1.2.2.2) == 0) (mask_Less_l0 k ((z1.1), (z1.2.1), (List.getD ([(z1.1), (z1.2.1)] : List Int) (offN 0 (z1.2.2.2) 1) 0), (IntKind.wrap .i64 ((z1.2.2.2) + 1))) y2_) (mask_Less_l0 k ((z1.1), (z1.2.1), (IntKind.wrap .u64 (BitVec.toNat (BitVec.ofInt (IntKind.bits .u64) (z1.2.2.1) &&& ~~~ BitVec.ofInt (IntKind.bits .u64) (List.getD ([(z1.1), (z1.2.1)] : List Int) (offN 0 (z1.2.2.2) 1) 0)))), (IntKind.wrap .i64 ((z1.2.2.2) + 1))) y2_)))) ((z1.2.2.1) = y2_))
def mask_Less_l0_L (z : mask_Less_l0_Z) (y : mask_Less_l0_Y) : Prop := ∃ k, mask_Less_l0 k z y
noncomputable def mask_Less_l0_lp : Lp := .auto none mask_Less_l0_body (loopG 1 mask_Less_l0_st (fun z y => ∃ k, mask_Less_l0 k z y) mask_Less_l0_K)
noncomputable def mask_Less_lp : Nat → FuncId → Nat → Nat → Lp := lpTab [(109, 3, 1, 1, mask_Less_l0_lp)]
theorem mask_Less_l0_round (n : Nat) (z1 : mask_Less_l0_Z) (z1q : mask_Less_l0_Q) (z1c : mask_Less_l0_C) (K : Ret → S → Prop) (next : S → Prop) : acode mask_Less_cx 109 (acall mask_Less_cx okT mask_Less_lp (n + 1)) kept (mask_Less_lp (n + 1) 109) none mask_Less_l0_body (iterK (wkK 1 K) next) (mask_Less_l0_st z1 z1q z1c) =
    (req true (br (decide ((z1.2.2.2) < 2)) (req true (req ((decide (0 ≤ (z1.2.2.2))) && (decide ((z1.2.2.2) < 2))) (req (Nat.blt (offN 0 (z1.2.2.2) 1) 2) (req true (req true (req true (req true (br ((z1.2.2.2) == 0) (req true (req true (req true (req true (next ⟨[(1, (V.fn 110 [] [])), (4, (V.int .u64 0)), (5, (V.int .u64 (List.getD ([(z1.1), (z1.2.1)] : List Int) (offN 0 (z1.2.2.2) 1) 0))), (8, (V.slc 0 0 2 2)), (9, (V.int .i64 2)), (10, (V.int .i64 (IntKind.wrap .i64 ((z1.2.2.2) + 1)))), (11, (V.bool (decide ((z1.2.2.2) < 2)))), (12, (V.int .i64 (z1.2.2.2))), (13, (V.ptr 0 (offN 0 (z1.2.2.2) 1))), (14, (V.int .u64 (List.getD ([(z1.1), (z1.2.1)] : List Int) (offN 0 (z1.2.2.2) 1) 0))), (6, (V.int .i64 (z1.2.2.2))), (7, (V.int .u64 (List.getD ([(z1.1), (z1.2.1)] : List Int) (offN 0 (z1.2.2.2) 1) 0))), (15, (V.int .i64 (z1.2.2.2))), (16, (V.bool ((z1.2.2.2) == 0))), (17, (V.int .u64 (List.getD ([(z1.1), (z1.2.1)] : List Int) (offN 0 (z1.2.2.2) 1) 0))), (22, (V.int .i64 (IntKind.wrap .i64 ((z1.2.2.2) + 1))))], [(Blk.cells [(V.int .u64 (z1.1)), (V.int .u64 (z1.2.1))])], []⟩))))) (req true (req true (req true (req true (req true (req true (req true (req true (req true (req true (req true (next ⟨[(1, (V.fn 110 [] [])), (4, (V.int .u64 0)), (5, (V.int .u64 (IntKind.wrap .u64 (BitVec.toNat (BitVec.ofInt (IntKind.bits .u64) (z1.2.2.1) &&& ~~~ BitVec.ofInt (IntKind.bits .u64) (List.getD ([(z1.1), (z1.2.1)] : List Int) (offN 0 (z1.2.2.2) 1) 0)))))), (8, (V.slc 0 0 2 2)), (9, (V.int .i64 2)), (10, (V.int .i64 (IntKind.wrap .i64 ((z1.2.2.2) + 1)))), (11, (V.bool (decide ((z1.2.2.2) < 2)))), (12, (V.int .i64 (z1.2.2.2))), (13, (V.ptr 0 (offN 0 (z1.2.2.2) 1))), (14, (V.int .u64 (List.getD ([(z1.1), (z1.2.1)] : List Int) (offN 0 (z1.2.2.2) 1) 0))), (6, (V.int .i64 (z1.2.2.2))), (7, (V.int .u64 (List.getD ([(z1.1), (z1.2.1)] : List Int) (offN 0 (z1.2.2.2) 1) 0))), (15, (V.int .i64 (z1.2.2.2))), (16, (V.bool ((z1.2.2.2) == 0))), (18, (V.fn 110 [] [])), (19, (V.int .u64 (z1.2.2.1))), (20, (V.int .u64 (List.getD ([(z1.1), (z1.2.1)] : List Int) (offN 0 (z1.2.2.2) 1) 0))), (21, (V.int .u64 (IntKind.wrap .u64 (BitVec.toNat (BitVec.ofInt (IntKind.bits .u64) (z1.2.2.1) &&& ~~~ BitVec.ofInt (IntKind.bits .u64) (List.getD ([(z1.1), (z1.2.1)] : List Int) (offN 0 (z1.2.2.2) 1) 0)))))), (22, (V.int .i64 (IntKind.wrap .i64 ((z1.2.2.2) + 1))))], [(Blk.cells [(V.int .u64 (z1.1)), (V.int .u64 (z1.2.1))])], []⟩)))))))))))))))))))) (wkK 1 K (.exit 0) ⟨[(1, (V.fn 110 [] [])), (4, (V.int .u64 0)), (5, (V.int .u64 (z1.2.2.1))), (8, (V.slc 0 0 2 2)), (9, (V.int .i64 2)), (10, (V.int .i64 (z1.2.2.2))), (11, (V.bool (decide ((z1.2.2.2) < 2))))], [(Blk.cells [(V.int .u64 (z1.1)), (V.int .u64 (z1.2.1))])], []⟩))) := by kernel_rfl
theorem mask_Less_l0_ok (n : Nat) : Owed mask_Less_cx 109 mask_Less_lp (n + 1) mask_Less_l0_lp := loop_owed (fun z y h => h) fun k z1 z1q z1c y2_ K h hK next hnext => by
  refine cast (mask_Less_l0_round n z1 z1q z1c K next).symm ?_
  simp only [mask_Less_l0] at h
  refine req_intro rfl ?_
  refine br_both h (fun hb h => ?_) (fun hb h => ?_)
  · refine req_intro rfl ?_
    obtain ⟨q, h⟩ := req_of h
    refine req_intro (band (band_l q) (band_r q)) ?_
    obtain ⟨q, h⟩ := req_of h
    refine req_intro q ?_
    iterate 4 refine req_intro rfl ?_
    refine br_both h (fun hb h => ?_) (fun hb h => ?_)
    · iterate 4 refine req_intro rfl ?_
      exact hnext ((z1.1), (z1.2.1), (List.getD ([(z1.1), (z1.2.1)] : List Int) (offN 0 (z1.2.2.2) 1) 0), (IntKind.wrap .i64 ((z1.2.2.2) + 1))) _ h hK ⟨(), wk_of (Or.inr ⟨⟨Or.inl rfl, Or.inl rfl, Or.inl rfl, Or.inl rfl, Or.inl rfl, Or.inl rfl, trivial⟩, ⟨Or.inl rfl, trivial⟩, rfl, rfl, rfl⟩)⟩
    · iterate 11 refine req_intro rfl ?_
      exact hnext ((z1.1), (z1.2.1), (IntKind.wrap .u64 (BitVec.toNat (BitVec.ofInt (IntKind.bits .u64) (z1.2.2.1) &&& ~~~ BitVec.ofInt (IntKind.bits .u64) (List.getD ([(z1.1), (z1.2.1)] : List Int) (offN 0 (z1.2.2.2) 1) 0)))), (IntKind.wrap .i64 ((z1.2.2.2) + 1))) _ h hK ⟨(), wk_of (Or.inr ⟨⟨Or.inl rfl, Or.inl rfl, Or.inl rfl, Or.inl rfl, Or.inl rfl, Or.inl rfl, trivial⟩, ⟨Or.inl rfl, trivial⟩, rfl, rfl, rfl⟩)⟩
  · subst h
    refine ⟨_, ?_, hK⟩
    exact wk_of (Or.inr ⟨⟨Or.inl rfl, Or.inl rfl, trivial⟩, ⟨Or.inl rfl, trivial⟩, rfl, rfl, rfl⟩)
theorem mask_Less_lpok : LpOk mask_Less_cx okT mask_Less_lp := LpOk_tab ⟨mask_Less_l0_ok, trivial⟩
def mask_Less_R (a0 : Int) (a1 : Int) (y : Int) : Prop :=
  (∃ y4 : mask_Less_l0_Y, mask_Less_l0_L (a0, a1, 0, 0) y4 ∧ (y4 = y))
theorem mask_Less_tree (a0 : Int) (a1 : Int) (y : Int) : acall mask_Less_cx okT mask_Less_lp 60 (.fn 82 [] []) [(V.int .u64 a0), (V.int .u64 a1)] [] (leafK (.int .u64) y) =
    (req true (req true (req true (req true (req true (req true (req true (req true (((none : Option Nat) = (none : Option Nat)) ∧ (mask_Less_l0_body = mask_Less_l0_body) ∧ ∃ z3 : mask_Less_l0_Z, ∃ z3q : mask_Less_l0_Q, ∃ y4 : mask_Less_l0_Y, (1 = 1) ∧ (∃ zc : mask_Less_l0_C, wk 1 ⟨[(0, (V.slc 0 0 2 2)), (1, (V.fn 110 [] [])), (4, (V.int .u64 0)), (5, (V.int .u64 0)), (8, (V.slc 0 0 2 2)), (9, (V.int .i64 2)), (10, (V.int .i64 0))], [(Blk.cells [(V.int .u64 a0), (V.int .u64 a1)])], []⟩ (mask_Less_l0_st z3 z3q zc)) ∧ (∃ k, mask_Less_l0 k z3 y4) ∧ (req true (req true (req true (req true (y4 = y)))))))))))))) := by kernel_rfl
theorem mask_Less_run (a0 : Int) (a1 : Int) (y : Int) (h : mask_Less_R a0 a1 y) : acall mask_Less_cx okT mask_Less_lp 60 (.fn 82 [] []) [(V.int .u64 a0), (V.int .u64 a1)] [] (leafK (.int .u64) y) := by
  refine cast (mask_Less_tree a0 a1 y).symm ?_
  unfold mask_Less_R at h
  iterate 8 refine req_intro rfl ?_
  obtain ⟨y4, ry4, h⟩ := h
  refine ⟨rfl, rfl, (a0, a1, 0, 0), (), y4, rfl, ⟨(), wk_of (Or.inr ⟨⟨Or.inl rfl, Or.inl rfl, Or.inl rfl, Or.inl rfl, Or.inl rfl, Or.inl rfl, trivial⟩, ⟨Or.inl rfl, trivial⟩, rfl, rfl, rfl⟩)⟩, ry4, ?_⟩
  iterate 3 refine req_intro rfl ?_
  exact req_intro rfl h
theorem mask_Less_ok : FxOk Tryd.prog gsT 82 (.cons (.int .u64) (.one (.int .u64))) (.int .u64) fun x y => mask_Less_R (x.1) (x.2) y := fx_of (c := mask_Less_cx) (ty_ok rfl) (eq_ok rfl) mask_Less_fns follows_ok (ok := okT) (lp := mask_Less_lp) (n := 60) mask_Less_lpok (enters Tryd.func82 (by kernel_rfl) rfl) (fun y => ⟨_, rfl⟩) fun x y h => mask_Less_run _ _ y h
noncomputable def mask_may_cx : Cx := ⟨tyT, [(87, .body Tryd.f87)], gsT, eqT⟩
theorem mask_may_fns : FnsOk Tryd.prog mask_may_cx := Fns_assoc ⟨body_ent Tryd.func87 (by kernel_rfl) (by kernel_rfl), trivial⟩
def mask_may_R (a0 : Int) (y : Bool) : Prop :=
  (br (decide (a0 ≥ 0)) ((decide (a0 ≤ 63)) = y) (false = y))
theorem mask_may_tree (a0 : Int) (y : Bool) : acall mask_may_cx okT lpT 60 (.fn 87 [] []) [(V.int .i64 a0)] [] (leafK .bool y) =
    (req true (req true (req true (req true (br (decide (a0 ≥ 0)) (req true (req true (req true (req true (req true ((decide (a0 ≤ 63)) = y)))))) (req true (req true (req true (false = y))))))))) := by kernel_rfl
theorem mask_may_run (a0 : Int) (y : Bool) (h : mask_may_R a0 y) : acall mask_may_cx okT lpT 60 (.fn 87 [] []) [(V.int .i64 a0)] [] (leafK .bool y) := by
  refine cast (mask_may_tree a0 y).symm ?_
  unfold mask_may_R at h
  iterate 4 refine req_intro rfl ?_
  refine br_both h (fun hb h => ?_) (fun hb h => ?_)
  · iterate 4 refine req_intro rfl ?_
    exact req_intro rfl h
  · iterate 2 refine req_intro rfl ?_
    exact req_intro rfl h
theorem mask_may_ok : FxOk Tryd.prog gsT 87 (.one (.int .i64)) .bool fun x y => mask_may_R x y := fx_of (c := mask_may_cx) (ty_ok rfl) (eq_ok rfl) mask_may_fns follows_ok (ok := okT) (lp := lpT) (n := 60) lp_ok (enters Tryd.func87 (by kernel_rfl) rfl) (fun y => ⟨_, rfl⟩) fun x y h => mask_may_run _ y h
noncomputable def mask_one_cx : Cx := ⟨tyT, [(134, .body Tryd.f134)], gsT, eqT⟩
theorem mask_one_fns : FnsOk Tryd.prog mask_one_cx := Fns_assoc ⟨body_ent Tryd.func134 (by kernel_rfl) (by kernel_rfl), trivial⟩
def mask_one_R (a0 : Int) (y : Int) : Prop :=
  (req (decide (0 ≤ (IntKind.wrap .u64 a0))) ((IntKind.wrap .u64 (1 * 2 ^ (min (Int.toNat (IntKind.wrap .u64 a0)) (IntKind.bits .u64)))) = y))
theorem mask_one_tree (a0 : Int) (y : Int) : acall mask_one_cx okT lpT 60 (.fn 134 [] []) [(V.int .i64 a0)] [] (leafK (.int .u64) y) =
    (req true (req true (req true (req (decide (0 ≤ (IntKind.wrap .u64 a0))) (req true (req true ((IntKind.wrap .u64 (1 * 2 ^ (min (Int.toNat (IntKind.wrap .u64 a0)) (IntKind.bits .u64)))) = y))))))) := by kernel_rfl
theorem mask_one_run (a0 : Int) (y : Int) (h : mask_one_R a0 y) : acall mask_one_cx okT lpT 60 (.fn 134 [] []) [(V.int .i64 a0)] [] (leafK (.int .u64) y) := by
  refine cast (mask_one_tree a0 y).symm ?_
  unfold mask_one_R at h
  iterate 3 refine req_intro rfl ?_
  obtain ⟨q, h⟩ := req_of h
  refine req_intro q ?_
  refine req_intro rfl ?_
  exact req_intro rfl h
theorem mask_one_ok : FxOk Tryd.prog gsT 134 (.one (.int .i64)) (.int .u64) fun x y => mask_one_R x y := fx_of (c := mask_one_cx) (ty_ok rfl) (eq_ok rfl) mask_one_fns follows_ok (ok := okT) (lp := lpT) (n := 60) lp_ok (enters Tryd.func134 (by kernel_rfl) rfl) (fun y => ⟨_, rfl⟩) fun x y h => mask_one_run _ y h
noncomputable def mask_Span_cx : Cx := ⟨tyT, [(87, .fx (.one (.int .i64)) .bool fun x y => mask_may_R x y),
  (129, .body Tryd.f129),
  (134, .fx (.one (.int .i64)) (.int .u64) fun x y => mask_one_R x y)], gsT, eqT⟩
theorem mask_Span_fns : FnsOk Tryd.prog mask_Span_cx := Fns_assoc ⟨mask_may_ok, body_ent Tryd.func129 (by kernel_rfl) (by kernel_rfl), mask_one_ok, trivial⟩
noncomputable def mask_Span_l0_body : Code := subC [1, 1, 1, 0, 1, 0, 0] (bodyOf Tryd.f129)
abbrev mask_Span_l0_Z : Type := Int × Int × Int × Int
abbrev mask_Span_l0_Y : Type := Int
abbrev mask_Span_l0_C : Type := Unit
abbrev mask_Span_l0_Q : Type := Unit
noncomputable def mask_Span_l0_st (z4 : mask_Span_l0_Z) (z4q : mask_Span_l0_Q) (z4c : mask_Span_l0_C) : S := ⟨[(1, (V.int .i64 (z4.1))), (2, (V.int .i64 (z4.2.1))), (6, (V.int .u64 0)), (7, (V.int .i64 0)), (8, (V.int .u64 (z4.2.2.1))), (9, (V.int .i64 (z4.2.2.2)))], [], []⟩
def mask_Span_l0_K (K : Ret → S → Prop) (z4 : mask_Span_l0_Z) (z4q : mask_Span_l0_Q) (y5 : mask_Span_l0_Y) : Prop := K (.exit 0) ⟨[(6, (V.int .u64 0)), (7, (V.int .i64 0)), (8, (V.int .u64 y5))], [], []⟩
def mask_Span_l0 : Nat → mask_Span_l0_Z → mask_Span_l0_Y → Prop
  | 0, _, _ => False
  | k + 1, z4, y5_ => (br (decide ((z4.2.2.2) ≤ (IntKind.wrap .i64 ((z4.1) - (z4.2.1))))) (∃ y6 : Int, (mask_one_R (IntKind.wrap .i64 ((z4.2.2.2) + (z4.2.1))) y6) ∧ (mask_Span_l0 k ((z4.1), (z4.2.1), (IntKind.wrap .u64 (BitVec.toNat (BitVec.ofInt (IntKind.bits .u64) (z4.2.2.1) ||| BitVec.ofInt (IntKind.bits .u64) y6))), (IntKind.wrap .i64 ((z4.2.2.2) + (z4.2.1)))) y5_)) ((z4.2.2.1) = y5_))
def mask_Span_l0_L (z : mask_Span_l0_Z) (y : mask_Span_l0_Y) : Prop := ∃ k, mask_Span_l0 k z y
noncomputable def mask_Span_l0_lp : Lp := .auto none mask_Span_l0_body (loopG 0 mask_Span_l0_st (fun z y => ∃ k, mask_Span_l0 k z y) mask_Span_l0_K)
noncomputable def mask_Span_lp : Nat → FuncId → Nat → Nat → Lp := lpTab [(129, 5, 0, 1, mask_Span_l0_lp)]
theorem mask_Span_l0_round (n : Nat) (z4 : mask_Span_l0_Z) (z4q : mask_Span_l0_Q) (z4c : mask_Span_l0_C) (K : Ret → S → Prop) (next : S → Prop) : acode mask_Span_cx 129 (acall mask_Span_cx okT mask_Span_lp (n + 1)) kept (mask_Span_lp (n + 1) 129) none mask_Span_l0_body (iterK (wkK 0 K) next) (mask_Span_l0_st z4 z4q z4c) =
    (req true (req true (req true (req true (req true (br (decide ((z4.2.2.2) ≤ (IntKind.wrap .i64 ((z4.1) - (z4.2.1))))) (req true (req true (req true (req true (req true (req true (req true (∃ y6 : Int, (mask_one_R (IntKind.wrap .i64 ((z4.2.2.2) + (z4.2.1))) y6) ∧ (req true (req true (next ⟨[(1, (V.int .i64 (z4.1))), (2, (V.int .i64 (z4.2.1))), (6, (V.int .u64 0)), (7, (V.int .i64 0)), (8, (V.int .u64 (IntKind.wrap .u64 (BitVec.toNat (BitVec.ofInt (IntKind.bits .u64) (z4.2.2.1) ||| BitVec.ofInt (IntKind.bits .u64) y6))))), (9, (V.int .i64 (IntKind.wrap .i64 ((z4.2.2.2) + (z4.2.1))))), (30, (V.int .i64 (z4.2.2.2))), (31, (V.int .i64 (z4.1))), (32, (V.int .i64 (z4.2.1))), (33, (V.int .i64 (IntKind.wrap .i64 ((z4.1) - (z4.2.1))))), (34, (V.bool (decide ((z4.2.2.2) ≤ (IntKind.wrap .i64 ((z4.1) - (z4.2.1))))))), (35, (V.int .i64 (z4.2.2.2))), (36, (V.int .i64 (z4.2.1))), (37, (V.int .i64 (IntKind.wrap .i64 ((z4.2.2.2) + (z4.2.1))))), (38, (V.int .u64 (z4.2.2.1))), (39, (V.int .i64 (IntKind.wrap .i64 ((z4.2.2.2) + (z4.2.1))))), (40, (V.int .u64 y6)), (41, (V.int .u64 (IntKind.wrap .u64 (BitVec.toNat (BitVec.ofInt (IntKind.bits .u64) (z4.2.2.1) ||| BitVec.ofInt (IntKind.bits .u64) y6)))))], [], []⟩))))))))))) (wkK 0 K (.exit 0) ⟨[(1, (V.int .i64 (z4.1))), (2, (V.int .i64 (z4.2.1))), (6, (V.int .u64 0)), (7, (V.int .i64 0)), (8, (V.int .u64 (z4.2.2.1))), (9, (V.int .i64 (z4.2.2.2))), (30, (V.int .i64 (z4.2.2.2))), (31, (V.int .i64 (z4.1))), (32, (V.int .i64 (z4.2.1))), (33, (V.int .i64 (IntKind.wrap .i64 ((z4.1) - (z4.2.1))))), (34, (V.bool (decide ((z4.2.2.2) ≤ (IntKind.wrap .i64 ((z4.1) - (z4.2.1)))))))], [], []⟩))))))) := by kernel_rfl
theorem mask_Span_l0_ok (n : Nat) : Owed mask_Span_cx 129 mask_Span_lp (n + 1) mask_Span_l0_lp := loop_owed (fun z y h => h) fun k z4 z4q z4c y5_ K h hK next hnext => by
  refine cast (mask_Span_l0_round n z4 z4q z4c K next).symm ?_
  simp only [mask_Span_l0] at h
  iterate 5 refine req_intro rfl ?_
  refine br_both h (fun hb h => ?_) (fun hb h => ?_)
  · iterate 7 refine req_intro rfl ?_
    obtain ⟨y6, ry6, h⟩ := h
    refine ⟨y6, ry6, ?_⟩
    iterate 2 refine req_intro rfl ?_
    exact hnext ((z4.1), (z4.2.1), (IntKind.wrap .u64 (BitVec.toNat (BitVec.ofInt (IntKind.bits .u64) (z4.2.2.1) ||| BitVec.ofInt (IntKind.bits .u64) y6))), (IntKind.wrap .i64 ((z4.2.2.2) + (z4.2.1)))) _ h hK ⟨(), wk_of (Or.inr ⟨⟨Or.inl rfl, Or.inl rfl, Or.inl rfl, Or.inl rfl, Or.inl rfl, Or.inl rfl, trivial⟩, trivial, rfl, rfl, rfl⟩)⟩
  · subst h
    refine ⟨_, ?_, hK⟩
    exact wk_of (Or.inr ⟨⟨Or.inl rfl, Or.inl rfl, Or.inl rfl, trivial⟩, trivial, rfl, rfl, rfl⟩)
theorem mask_Span_lpok : LpOk mask_Span_cx okT mask_Span_lp := LpOk_tab ⟨mask_Span_l0_ok, trivial⟩
def mask_Span_R (a0 : Int) (a1 : Int) (a2 : Int) (y : Int × Int) : Prop :=
  (∃ y1 : Bool, (mask_may_R a0 y1) ∧ (br (!y1) ((0, 2) = y) (∃ y2 : Bool, (mask_may_R a1 y2) ∧ (br (!y2) ((0, 2) = y) (br (decide (a0 > a1)) ((0, 2) = y) (br (decide (a2 < 1)) ((0, 2) = y) (∃ y3 : Int, (mask_one_R a0 y3) ∧ (∃ y8 : mask_Span_l0_Y, mask_Span_l0_L (a1, a2, y3, a0) y8 ∧ ((y8, 0) = y)))))))))
theorem mask_Span_tree (a0 : Int) (a1 : Int) (a2 : Int) (y : Int × Int) : acall mask_Span_cx okT mask_Span_lp 60 (.fn 129 [] []) [(V.int .i64 a0), (V.int .i64 a1), (V.int .i64 a2)] [] (leafK (.tup (.cons (.int .u64) (.one (.int .i64)))) y) =
    (req true (req true (req true (req true (∃ y1 : Bool, (mask_may_R a0 y1) ∧ (req true (req true (br (!y1) (req true (req true (req true (req true (req true (req true (req true (req true ((0, 2) = y))))))))) (req true (req true (∃ y2 : Bool, (mask_may_R a1 y2) ∧ (req true (req true (req true (br (!y2) (req true (req true (req true (req true (req true (req true ((0, 2) = y))))))) (req true (req true (req true (req true (req true (br (decide (a0 > a1)) (req true (req true (req true (req true ((0, 2) = y))))) (req true (req true (req true (br (decide (a2 < 1)) (req true (req true (req true ((0, 2) = y)))) (req true (req true (∃ y3 : Int, (mask_one_R a0 y3) ∧ (req true (req true (req true (((none : Option Nat) = (none : Option Nat)) ∧ (mask_Span_l0_body = mask_Span_l0_body) ∧ ∃ z7 : mask_Span_l0_Z, ∃ z7q : mask_Span_l0_Q, ∃ y8 : mask_Span_l0_Y, (0 = 0) ∧ (∃ zc : mask_Span_l0_C, wk 0 ⟨[(0, (V.int .i64 a0)), (1, (V.int .i64 a1)), (2, (V.int .i64 a2)), (6, (V.int .u64 0)), (7, (V.int .i64 0)), (10, (V.int .i64 a0)), (11, (V.bool y1)), (12, (V.bool (!y1))), (13, (V.bool false)), (14, (V.int .i64 a1)), (15, (V.bool y2)), (16, (V.bool (!y2))), (17, (V.bool (!y2))), (18, (V.bool false)), (19, (V.int .i64 a0)), (20, (V.int .i64 a1)), (21, (V.bool (decide (a0 > a1)))), (22, (V.bool (decide (a0 > a1)))), (23, (V.bool false)), (24, (V.int .i64 a2)), (25, (V.bool (decide (a2 < 1)))), (26, (V.bool (decide (a2 < 1)))), (27, (V.int .i64 a0)), (28, (V.int .u64 y3)), (8, (V.int .u64 y3)), (29, (V.int .i64 a0)), (9, (V.int .i64 a0))], [], []⟩ (mask_Span_l0_st z7 z7q zc)) ∧ (∃ k, mask_Span_l0 k z7 y8) ∧ (req true (req true (req true (req true ((y8, 0) = y))))))))))))))))))))))))))))))))))))) := by kernel_rfl
theorem mask_Span_run (a0 : Int) (a1 : Int) (a2 : Int) (y : Int × Int) (h : mask_Span_R a0 a1 a2 y) : acall mask_Span_cx okT mask_Span_lp 60 (.fn 129 [] []) [(V.int .i64 a0), (V.int .i64 a1), (V.int .i64 a2)] [] (leafK (.tup (.cons (.int .u64) (.one (.int .i64)))) y) := by
  refine cast (mask_Span_tree a0 a1 a2 y).symm ?_
  unfold mask_Span_R at h
  iterate 4 refine req_intro rfl ?_
  obtain ⟨y1, ry1, h⟩ := h
  refine ⟨y1, ry1, ?_⟩
  iterate 2 refine req_intro rfl ?_
  refine br_both h (fun hb h => ?_) (fun hb h => ?_)
  · iterate 7 refine req_intro rfl ?_
    exact req_intro rfl h
  · iterate 2 refine req_intro rfl ?_
    obtain ⟨y2, ry2, h⟩ := h
    refine ⟨y2, ry2, ?_⟩
    iterate 3 refine req_intro rfl ?_
    refine br_both h (fun hb h => ?_) (fun hb h => ?_)
    · iterate 5 refine req_intro rfl ?_
      exact req_intro rfl h
    · iterate 5 refine req_intro rfl ?_
      refine br_both h (fun hb h => ?_) (fun hb h => ?_)
      · iterate 3 refine req_intro rfl ?_
        exact req_intro rfl h
      · iterate 3 refine req_intro rfl ?_
        refine br_both h (fun hb h => ?_) (fun hb h => ?_)
        · iterate 2 refine req_intro rfl ?_
          exact req_intro rfl h
        · iterate 2 refine req_intro rfl ?_
          obtain ⟨y3, ry3, h⟩ := h
          refine ⟨y3, ry3, ?_⟩
          iterate 3 refine req_intro rfl ?_
          obtain ⟨y8, ry8, h⟩ := h
          refine ⟨rfl, rfl, (a1, a2, y3, a0), (), y8, rfl, ⟨(), wk_of (Or.inr ⟨⟨Or.inl rfl, Or.inl rfl, Or.inl rfl, Or.inl rfl, Or.inl rfl, Or.inl rfl, trivial⟩, trivial, rfl, rfl, rfl⟩)⟩, ry8, ?_⟩
          iterate 3 refine req_intro rfl ?_
          exact req_intro rfl h
theorem mask_Span_ok : FxOk Tryd.prog gsT 129 (.cons (.int .i64) (.cons (.int .i64) (.one (.int .i64)))) (.tup (.cons (.int .u64) (.one (.int .i64)))) fun x y => mask_Span_R (x.1) (x.2.1) (x.2.2) y := fx_of (c := mask_Span_cx) (ty_ok rfl) (eq_ok rfl) mask_Span_fns follows_ok (ok := okT) (lp := mask_Span_lp) (n := 60) mask_Span_lpok (enters Tryd.func129 (by kernel_rfl) rfl) (fun y => ⟨_, rfl⟩) fun x y h => mask_Span_run _ _ _ y h
noncomputable def field_span_cx : Cx := ⟨tyT, [(111, .body Tryd.f111),
  (129, .fx (.cons (.int .i64) (.cons (.int .i64) (.one (.int .i64)))) (.tup (.cons (.int .u64) (.one (.int .i64)))) fun x y => mask_Span_R (x.1) (x.2.1) (x.2.2) y)], gsT, eqT⟩
theorem field_span_fns : FnsOk Tryd.prog field_span_cx := Fns_assoc ⟨body_ent Tryd.func111 (by kernel_rfl) (by kernel_rfl), mask_Span_ok, trivial⟩
def field_span_R (a0 : Int) (a1 : Int) (a2 : Int) (y : Int × Bool) : Prop :=
  (∃ y1 : Int × Int, (mask_Span_R a0 a1 a2 y1) ∧ (((y1.1), ((y1.2) == 0)) = y))
theorem field_span_tree (a0 : Int) (a1 : Int) (a2 : Int) (y : Int × Bool) : acall field_span_cx okT lpT 60 (.fn 111 [] []) [(V.agg [(V.int .i64 a0), (V.int .i64 a1)]), (V.int .i64 a2)] [] (leafK (.tup (.cons (.int .u64) (.one .bool))) y) =
    (req true (req true (req true (req true (req true (req true (req true (req true (∃ y1 : Int × Int, (mask_Span_R a0 a1 a2 y1) ∧ (req true (req true (req true (req true (req true (req true (req true (req true (req true (req true (req true (((y1.1), ((y1.2) == 0)) = y))))))))))))))))))))) := by kernel_rfl
theorem field_span_run (a0 : Int) (a1 : Int) (a2 : Int) (y : Int × Bool) (h : field_span_R a0 a1 a2 y) : acall field_span_cx okT lpT 60 (.fn 111 [] []) [(V.agg [(V.int .i64 a0), (V.int .i64 a1)]), (V.int .i64 a2)] [] (leafK (.tup (.cons (.int .u64) (.one .bool))) y) := by
  refine cast (field_span_tree a0 a1 a2 y).symm ?_
  unfold field_span_R at h
  iterate 8 refine req_intro rfl ?_
  obtain ⟨y1, ry1, h⟩ := h
  refine ⟨y1, ry1, ?_⟩
  iterate 10 refine req_intro rfl ?_
  exact req_intro rfl h
theorem field_span_ok : FxOk Tryd.prog gsT 111 (.cons (.agg (.cons (.int .i64) (.one (.int .i64)))) (.one (.int .i64))) (.tup (.cons (.int .u64) (.one .bool))) fun x y => field_span_R (x.1.1) (x.1.2) (x.2) y := fx_of (c := field_span_cx) (ty_ok rfl) (eq_ok rfl) field_span_fns follows_ok (ok := okT) (lp := lpT) (n := 60) lp_ok (enters Tryd.func111 (by kernel_rfl) rfl) (fun y => ⟨_, rfl⟩) fun x y h => field_span_run _ _ _ y h
noncomputable def field_Whole_cx : Cx := ⟨tyT, [(81, .fx (.one (.int .i64)) .bool fun x y => field_there_R x y),
  (83, .body Tryd.f83),
  (111, .fx (.cons (.agg (.cons (.int .i64) (.one (.int .i64)))) (.one (.int .i64))) (.tup (.cons (.int .u64) (.one .bool))) fun x y => field_span_R (x.1.1) (x.1.2) (x.2) y)], gsT, eqT⟩
theorem field_Whole_fns : FnsOk Tryd.prog field_Whole_cx := Fns_assoc ⟨field_there_ok, body_ent Tryd.func83 (by kernel_rfl) (by kernel_rfl), field_span_ok, trivial⟩
def field_Whole_R (a0 : Int) (y : Int) : Prop :=
  (∃ y1 : Bool, (field_there_R a0 y1) ∧ (br (!y1) (0 = y) (req ((decide (0 ≤ a0)) && (decide (a0 < 5))) (req (Nat.ble ((offN 0 a0 2) + 2) (List.length endsL)) (∃ y2 : Int × Bool, (field_span_R (List.getD endsL ((offN 0 a0 2) + 0) 0) (List.getD endsL ((offN 0 a0 2) + 1) 0) 1 y2) ∧ ((y2.1) = y))))))
theorem field_Whole_tree (a0 : Int) (y : Int) : acall field_Whole_cx okT lpT 60 (.fn 83 [] []) [(V.int .i64 a0)] [] (leafK (.int .u64) y) =
    (req true (req true (req true (∃ y1 : Bool, (field_there_R a0 y1) ∧ (req true (br (!y1) (req true (req true (0 = y))) (req true (req ((decide (0 ≤ a0)) && (decide (a0 < 5))) (req (Nat.ble ((offN 0 a0 2) + 2) (List.length endsL)) (req true (∃ y2 : Int × Bool, (field_span_R (List.getD endsL ((offN 0 a0 2) + 0) 0) (List.getD endsL ((offN 0 a0 2) + 1) 0) 1 y2) ∧ (req true (req true (req true (req true (req true (req true (req true (req true ((y2.1) = y)))))))))))))))))))) := by kernel_rfl
theorem field_Whole_run (a0 : Int) (y : Int) (h : field_Whole_R a0 y) : acall field_Whole_cx okT lpT 60 (.fn 83 [] []) [(V.int .i64 a0)] [] (leafK (.int .u64) y) := by
  refine cast (field_Whole_tree a0 y).symm ?_
  unfold field_Whole_R at h
  iterate 3 refine req_intro rfl ?_
  obtain ⟨y1, ry1, h⟩ := h
  refine ⟨y1, ry1, ?_⟩
  refine req_intro rfl ?_
  refine br_both h (fun hb h => ?_) (fun hb h => ?_)
  · refine req_intro rfl ?_
    exact req_intro rfl h
  · refine req_intro rfl ?_
    obtain ⟨q, h⟩ := req_of h
    refine req_intro (band (band_l q) (band_r q)) ?_
    obtain ⟨q, h⟩ := req_of h
    refine req_intro q ?_
    refine req_intro rfl ?_
    obtain ⟨y2, ry2, h⟩ := h
    refine ⟨y2, ry2, ?_⟩
    iterate 7 refine req_intro rfl ?_
    exact req_intro rfl h
theorem field_Whole_ok : FxOk Tryd.prog gsT 83 (.one (.int .i64)) (.int .u64) fun x y => field_Whole_R x y := fx_of (c := field_Whole_cx) (ty_ok rfl) (eq_ok rfl) field_Whole_fns follows_ok (ok := okT) (lp := lpT) (n := 60) lp_ok (enters Tryd.func83 (by kernel_rfl) rfl) (fun y => ⟨_, rfl⟩) fun x y h => field_Whole_run _ y h
noncomputable def field_Check_cx : Cx := ⟨tyT, [(50, .body Tryd.f50),
  (81, .fx (.one (.int .i64)) .bool fun x y => field_there_R x y),
  (82, .fx (.cons (.int .u64) (.one (.int .u64))) (.int .u64) fun x y => mask_Less_R (x.1) (x.2) y),
  (83, .fx (.one (.int .i64)) (.int .u64) fun x y => field_Whole_R x y)], gsT, eqT⟩
theorem field_Check_fns : FnsOk Tryd.prog field_Check_cx := Fns_assoc ⟨body_ent Tryd.func50 (by kernel_rfl) (by kernel_rfl), field_there_ok, mask_Less_ok, field_Whole_ok, trivial⟩
def field_Check_R (a0 : Int) (a1 : Int) (y : Int) : Prop :=
  (∃ y1 : Bool, (field_there_R a0 y1) ∧ (br (!y1) (2 = y) (br (a1 == 0) (160 = y) (∃ y2 : Int, (field_Whole_R a0 y2) ∧ (∃ y3 : Int, (mask_Less_R a1 y2 y3) ∧ (br (y3 != 0) (160 = y) (0 = y)))))))
theorem field_Check_tree (a0 : Int) (a1 : Int) (y : Int) : acall field_Check_cx okT lpT 60 (.fn 50 [] []) [(V.int .i64 a0), (V.int .u64 a1)] [] (leafK (.int .i64) y) =
    (req true (req true (req true (∃ y1 : Bool, (field_there_R a0 y1) ∧ (req true (req true (br (!y1) (req true (req true (2 = y))) (req true (req true (req true (br (a1 == 0) (req true (req true (req true (req true (160 = y))))) (req true (req true (req true (∃ y2 : Int, (field_Whole_R a0 y2) ∧ (req true (∃ y3 : Int, (mask_Less_R a1 y2 y3) ∧ (req true (req true (req true (br (y3 != 0) (req true (req true (160 = y))) (req true (req true (0 = y)))))))))))))))))))))))) := by kernel_rfl
theorem field_Check_run (a0 : Int) (a1 : Int) (y : Int) (h : field_Check_R a0 a1 y) : acall field_Check_cx okT lpT 60 (.fn 50 [] []) [(V.int .i64 a0), (V.int .u64 a1)] [] (leafK (.int .i64) y) := by
  refine cast (field_Check_tree a0 a1 y).symm ?_
  unfold field_Check_R at h
  iterate 3 refine req_intro rfl ?_
  obtain ⟨y1, ry1, h⟩ := h
  refine ⟨y1, ry1, ?_⟩
  iterate 2 refine req_intro rfl ?_
  refine br_both h (fun hb h => ?_) (fun hb h => ?_)
  · refine req_intro rfl ?_
    exact req_intro rfl h
  · iterate 3 refine req_intro rfl ?_
    refine br_both h (fun hb h => ?_) (fun hb h => ?_)
    · iterate 3 refine req_intro rfl ?_
      exact req_intro rfl h
    · iterate 3 refine req_intro rfl ?_
      obtain ⟨y2, ry2, h⟩ := h
      refine ⟨y2, ry2, ?_⟩
      refine req_intro rfl ?_
      obtain ⟨y3, ry3, h⟩ := h
      refine ⟨y3, ry3, ?_⟩
      iterate 3 refine req_intro rfl ?_
      refine br_both h (fun hb h => ?_) (fun hb h => ?_)
      · refine req_intro rfl ?_
        exact req_intro rfl h
      · refine req_intro rfl ?_
        exact req_intro rfl h
theorem field_Check_ok : FxOk Tryd.prog gsT 50 (.cons (.int .i64) (.one (.int .u64))) (.int .i64) fun x y => field_Check_R (x.1) (x.2) y := fx_of (c := field_Check_cx) (ty_ok rfl) (eq_ok rfl) field_Check_fns follows_ok (ok := okT) (lp := lpT) (n := 60) lp_ok (enters Tryd.func50 (by kernel_rfl) rfl) (fun y => ⟨_, rfl⟩) fun x y h => field_Check_run _ _ y h
noncomputable def cron_Check_cx : Cx := ⟨tyT, [(23, .body Tryd.f23),
  (49, .body Tryd.f49),
  (50, .fx (.cons (.int .i64) (.one (.int .u64))) (.int .i64) fun x y => field_Check_R (x.1) (x.2) y)], gsT, eqT⟩
theorem cron_Check_fns : FnsOk Tryd.prog cron_Check_cx := Fns_assoc ⟨body_ent Tryd.func23 (by kernel_rfl) (by kernel_rfl), body_ent Tryd.func49 (by kernel_rfl) (by kernel_rfl), field_Check_ok, trivial⟩
def cron_Check_R (a0 : Int) (a1 : Int) (a2 : Int) (a3 : Int) (a4 : Int) (y : Int) : Prop :=
  (br ((a0 == 0) && ((a1 == 0) && ((a2 == 0) && ((a3 == 0) && ((a4 == 0) && true))))) (170 = y) (∃ y1 : Int, (field_Check_R 0 a0 y1) ∧ (br (y1 != 0) (170 = y) (∃ y2 : Int, (field_Check_R 1 a1 y2) ∧ (br (y2 != 0) (170 = y) (∃ y3 : Int, (field_Check_R 2 a2 y3) ∧ (br (y3 != 0) (170 = y) (∃ y4 : Int, (field_Check_R 3 a3 y4) ∧ (br (y4 != 0) (170 = y) (∃ y5 : Int, (field_Check_R 4 a4 y5) ∧ (br (y5 != 0) (170 = y) (0 = y))))))))))))
theorem cron_Check_tree (a0 : Int) (a1 : Int) (a2 : Int) (a3 : Int) (a4 : Int) (y : Int) : acall cron_Check_cx okT lpT 60 (.fn 23 [] []) [(V.agg [(V.int .u64 a0), (V.int .u64 a1), (V.int .u64 a2), (V.int .u64 a3), (V.int .u64 a4)])] [] (leafK (.int .i64) y) =
    (req true (req true (req true (req true (br ((a0 == 0) && ((a1 == 0) && ((a2 == 0) && ((a3 == 0) && ((a4 == 0) && true))))) (req true (req true (170 = y))) (req true (req true (req true (req true (req true (req true (req true (req true (req true (req true (req true (req true (req true (req true (req true (req true (req true (req true (req true (req true (req true (req true (req true (req true (req true (req true (req true (req true (∃ y1 : Int, (field_Check_R 0 a0 y1) ∧ (req true (br (y1 != 0) (req true (req true (170 = y))) (req true (req true (req true (req true (req true (req true (req true (req true (req true (req true (req true (req true (∃ y2 : Int, (field_Check_R 1 a1 y2) ∧ (req true (br (y2 != 0) (req true (req true (170 = y))) (req true (req true (req true (req true (req true (req true (req true (req true (req true (req true (req true (req true (∃ y3 : Int, (field_Check_R 2 a2 y3) ∧ (req true (br (y3 != 0) (req true (req true (170 = y))) (req true (req true (req true (req true (req true (req true (req true (req true (req true (req true (req true (req true (∃ y4 : Int, (field_Check_R 3 a3 y4) ∧ (req true (br (y4 != 0) (req true (req true (170 = y))) (req true (req true (req true (req true (req true (req true (req true (req true (req true (req true (req true (req true (∃ y5 : Int, (field_Check_R 4 a4 y5) ∧ (req true (br (y5 != 0) (req true (req true (170 = y))) (req true (req true (req true (req true (req true (0 = y)))))))))))))))))))))))))))))))))))))))))))))))))))))))))))))))))))))))))))))))))))))))))))))))))))))) := by kernel_rfl
theorem cron_Check_run (a0 : Int) (a1 : Int) (a2 : Int) (a3 : Int) (a4 : Int) (y : Int) (h : cron_Check_R a0 a1 a2 a3 a4 y) : acall cron_Check_cx okT lpT 60 (.fn 23 [] []) [(V.agg [(V.int .u64 a0), (V.int .u64 a1), (V.int .u64 a2), (V.int .u64 a3), (V.int .u64 a4)])] [] (leafK (.int .i64) y) := by
  refine cast (cron_Check_tree a0 a1 a2 a3 a4 y).symm ?_
  unfold cron_Check_R at h
  iterate 4 refine req_intro rfl ?_
  refine br_both h (fun hb h => ?_) (fun hb h => ?_)
  · refine req_intro rfl ?_
    exact req_intro rfl h
  · iterate 28 refine req_intro rfl ?_
    obtain ⟨y1, ry1, h⟩ := h
    refine ⟨y1, ry1, ?_⟩
    refine req_intro rfl ?_
    refine br_both h (fun hb h => ?_) (fun hb h => ?_)
    · refine req_intro rfl ?_
      exact req_intro rfl h
    · iterate 12 refine req_intro rfl ?_
      obtain ⟨y2, ry2, h⟩ := h
      refine ⟨y2, ry2, ?_⟩
      refine req_intro rfl ?_
      refine br_both h (fun hb h => ?_) (fun hb h => ?_)
      · refine req_intro rfl ?_
        exact req_intro rfl h
      · iterate 12 refine req_intro rfl ?_
        obtain ⟨y3, ry3, h⟩ := h
        refine ⟨y3, ry3, ?_⟩
        refine req_intro rfl ?_
        refine br_both h (fun hb h => ?_) (fun hb h => ?_)
        · refine req_intro rfl ?_
          exact req_intro rfl h
        · iterate 12 refine req_intro rfl ?_
          obtain ⟨y4, ry4, h⟩ := h
          refine ⟨y4, ry4, ?_⟩
          refine req_intro rfl ?_
          refine br_both h (fun hb h => ?_) (fun hb h => ?_)
          · refine req_intro rfl ?_
            exact req_intro rfl h
          · iterate 12 refine req_intro rfl ?_
            obtain ⟨y5, ry5, h⟩ := h
            refine ⟨y5, ry5, ?_⟩
            refine req_intro rfl ?_
            refine br_both h (fun hb h => ?_) (fun hb h => ?_)
            · refine req_intro rfl ?_
              exact req_intro rfl h
            · iterate 4 refine req_intro rfl ?_
              exact req_intro rfl h
theorem cron_Check_ok : FxOk Tryd.prog gsT 23 (.one (.agg (.cons (.int .u64) (.cons (.int .u64) (.cons (.int .u64) (.cons (.int .u64) (.one (.int .u64)))))))) (.int .i64) fun x y => cron_Check_R (x.1) (x.2.1) (x.2.2.1) (x.2.2.2.1) (x.2.2.2.2) y := fx_of (c := cron_Check_cx) (ty_ok rfl) (eq_ok rfl) cron_Check_fns follows_ok (ok := okT) (lp := lpT) (n := 60) lp_ok (enters Tryd.func23 (by kernel_rfl) rfl) (fun y => ⟨_, rfl⟩) fun x y h => cron_Check_run _ _ _ _ _ y h
noncomputable def mask_Has_cx : Cx := ⟨tyT, [(53, .body Tryd.f53),
  (87, .fx (.one (.int .i64)) .bool fun x y => mask_may_R x y)], gsT, eqT⟩
theorem mask_Has_fns : FnsOk Tryd.prog mask_Has_cx := Fns_assoc ⟨body_ent Tryd.func53 (by kernel_rfl) (by kernel_rfl), mask_may_ok, trivial⟩
def mask_Has_R (a0 : Int) (a1 : Int) (y : Bool) : Prop :=
  (∃ y1 : Bool, (mask_may_R a1 y1) ∧ (br y1 (req (decide (0 ≤ (IntKind.wrap .u64 a1))) (((IntKind.wrap .u64 (BitVec.toNat (BitVec.ofInt (IntKind.bits .u64) (Int.fdiv a0 (2 ^ (min (Int.toNat (IntKind.wrap .u64 a1)) (IntKind.bits .u64)))) &&& BitVec.ofInt (IntKind.bits .u64) 1))) == 1) = y)) (false = y)))
theorem mask_Has_tree (a0 : Int) (a1 : Int) (y : Bool) : acall mask_Has_cx okT lpT 60 (.fn 53 [] []) [(V.int .u64 a0), (V.int .i64 a1)] [] (leafK .bool y) =
    (req true (req true (req true (∃ y1 : Bool, (mask_may_R a1 y1) ∧ (req true (br y1 (req true (req true (req true (req (decide (0 ≤ (IntKind.wrap .u64 a1))) (req true (req true (req true (req true (req true (((IntKind.wrap .u64 (BitVec.toNat (BitVec.ofInt (IntKind.bits .u64) (Int.fdiv a0 (2 ^ (min (Int.toNat (IntKind.wrap .u64 a1)) (IntKind.bits .u64)))) &&& BitVec.ofInt (IntKind.bits .u64) 1))) == 1) = y)))))))))) (req true (req true (req true (false = y)))))))))) := by kernel_rfl
theorem mask_Has_run (a0 : Int) (a1 : Int) (y : Bool) (h : mask_Has_R a0 a1 y) : acall mask_Has_cx okT lpT 60 (.fn 53 [] []) [(V.int .u64 a0), (V.int .i64 a1)] [] (leafK .bool y) := by
  refine cast (mask_Has_tree a0 a1 y).symm ?_
  unfold mask_Has_R at h
  iterate 3 refine req_intro rfl ?_
  obtain ⟨y1, ry1, h⟩ := h
  refine ⟨y1, ry1, ?_⟩
  refine req_intro rfl ?_
  refine br_both h (fun hb h => ?_) (fun hb h => ?_)
  · iterate 3 refine req_intro rfl ?_
    obtain ⟨q, h⟩ := req_of h
    refine req_intro q ?_
    iterate 4 refine req_intro rfl ?_
    exact req_intro rfl h
  · iterate 2 refine req_intro rfl ?_
    exact req_intro rfl h
theorem mask_Has_ok : FxOk Tryd.prog gsT 53 (.cons (.int .u64) (.one (.int .i64))) .bool fun x y => mask_Has_R (x.1) (x.2) y := fx_of (c := mask_Has_cx) (ty_ok rfl) (eq_ok rfl) mask_Has_fns follows_ok (ok := okT) (lp := lpT) (n := 60) lp_ok (enters Tryd.func53 (by kernel_rfl) rfl) (fun y => ⟨_, rfl⟩) fun x y h => mask_Has_run _ _ y h
noncomputable def days_months_cx : Cx := ⟨tyT, [(113, .body Tryd.f113)], gsT, eqT⟩
theorem days_months_fns : FnsOk Tryd.prog days_months_cx := Fns_assoc ⟨body_ent Tryd.func113 (by kernel_rfl) (by kernel_rfl), trivial⟩
def days_months_R (a0 : Int) (y : Int) : Prop :=
  ((IntKind.wrap .i64 (Int.tdiv (IntKind.wrap .i64 ((IntKind.wrap .i64 (153 * a0)) + 2)) 5)) = y)
theorem days_months_tree (a0 : Int) (y : Int) : acall days_months_cx okT lpT 60 (.fn 113 [] []) [(V.int .i64 a0)] [] (leafK (.int .i64) y) =
    (req true (req true (req true (req true (req true (req true (req true ((IntKind.wrap .i64 (Int.tdiv (IntKind.wrap .i64 ((IntKind.wrap .i64 (153 * a0)) + 2)) 5)) = y)))))))) := by kernel_rfl
theorem days_months_run (a0 : Int) (y : Int) (h : days_months_R a0 y) : acall days_months_cx okT lpT 60 (.fn 113 [] []) [(V.int .i64 a0)] [] (leafK (.int .i64) y) := by
  refine cast (days_months_tree a0 y).symm ?_
  unfold days_months_R at h
  iterate 6 refine req_intro rfl ?_
  exact req_intro rfl h
theorem days_months_ok : FxOk Tryd.prog gsT 113 (.one (.int .i64)) (.int .i64) fun x y => days_months_R x y := fx_of (c := days_months_cx) (ty_ok rfl) (eq_ok rfl) days_months_fns follows_ok (ok := okT) (lp := lpT) (n := 60) lp_ok (enters Tryd.func113 (by kernel_rfl) rfl) (fun y => ⟨_, rfl⟩) fun x y h => days_months_run _ y h
noncomputable def days_Leap_cx : Cx := ⟨tyT, [(135, .body Tryd.f135),
  (139, .body Tryd.f139)], gsT, eqT⟩
theorem days_Leap_fns : FnsOk Tryd.prog days_Leap_cx := Fns_assoc ⟨body_ent Tryd.func135 (by kernel_rfl) (by kernel_rfl), body_ent Tryd.func139 (by kernel_rfl) (by kernel_rfl), trivial⟩
def days_Leap_R (a0 : Int) (y : Bool) : Prop :=
  (br ((Int.tmod a0 4) == 0) (br (!((Int.tmod a0 100) == 0)) (true = y) (((Int.tmod a0 400) == 0) = y)) (false = y))
theorem days_Leap_tree (a0 : Int) (y : Bool) : acall days_Leap_cx okT lpT 60 (.fn 135 [] []) [(V.int .i64 a0)] [] (leafK .bool y) =
    (req true (req true (req true (req true (req true (req true (req true (req true (req true (req true (req true (br ((Int.tmod a0 4) == 0) (req true (req true (req true (req true (req true (req true (req true (req true (req true (br (!((Int.tmod a0 100) == 0)) (req true (req true (req true (req true (true = y))))) (req true (req true (req true (req true (req true (req true (req true (req true (req true (req true (req true (((Int.tmod a0 400) == 0) = y)))))))))))))))))))))) (req true (req true (req true (false = y)))))))))))))))) := by kernel_rfl
theorem days_Leap_run (a0 : Int) (y : Bool) (h : days_Leap_R a0 y) : acall days_Leap_cx okT lpT 60 (.fn 135 [] []) [(V.int .i64 a0)] [] (leafK .bool y) := by
  refine cast (days_Leap_tree a0 y).symm ?_
  unfold days_Leap_R at h
  iterate 11 refine req_intro rfl ?_
  refine br_both h (fun hb h => ?_) (fun hb h => ?_)
  · iterate 9 refine req_intro rfl ?_
    refine br_both h (fun hb h => ?_) (fun hb h => ?_)
    · iterate 3 refine req_intro rfl ?_
      exact req_intro rfl h
    · iterate 10 refine req_intro rfl ?_
      exact req_intro rfl h
  · iterate 2 refine req_intro rfl ?_
    exact req_intro rfl h
theorem days_Leap_ok : FxOk Tryd.prog gsT 135 (.one (.int .i64)) .bool fun x y => days_Leap_R x y := fx_of (c := days_Leap_cx) (ty_ok rfl) (eq_ok rfl) days_Leap_fns follows_ok (ok := okT) (lp := lpT) (n := 60) lp_ok (enters Tryd.func135 (by kernel_rfl) rfl) (fun y => ⟨_, rfl⟩) fun x y h => days_Leap_run _ y h
noncomputable def days_Long_cx : Cx := ⟨tyT, [(130, .body Tryd.f130),
  (135, .fx (.one (.int .i64)) .bool fun x y => days_Leap_R x y)], gsT, eqT⟩
theorem days_Long_fns : FnsOk Tryd.prog days_Long_cx := Fns_assoc ⟨body_ent Tryd.func130 (by kernel_rfl) (by kernel_rfl), days_Leap_ok, trivial⟩
def days_Long_R (a0 : Int) (a1 : Int) (y : Int) : Prop :=
  (br (decide (a1 < 1)) (0 = y) (br (decide (a1 ≥ 13)) (0 = y) (req ((decide (0 ≤ a1)) && (decide (a1 < 13))) (req (Nat.blt (offN 0 a1 1) (List.length longL)) (br (a1 == 2) (∃ y1 : Bool, (days_Leap_R a0 y1) ∧ (br y1 ((IntKind.wrap .i64 ((List.getD longL (offN 0 a1 1) 0) + 1)) = y) ((List.getD longL (offN 0 a1 1) 0) = y))) ((List.getD longL (offN 0 a1 1) 0) = y))))))
theorem days_Long_tree (a0 : Int) (a1 : Int) (y : Int) : acall days_Long_cx okT lpT 60 (.fn 130 [] []) [(V.int .i64 a0), (V.int .i64 a1)] [] (leafK (.int .i64) y) =
    (req true (req true (req true (req true (br (decide (a1 < 1)) (req true (req true (req true (0 = y)))) (req true (req true (req true (br (decide (a1 ≥ 13)) (req true (req true (0 = y))) (req true (req ((decide (0 ≤ a1)) && (decide (a1 < 13))) (req (Nat.blt (offN 0 a1 1) (List.length longL)) (req true (req true (req true (req true (br (a1 == 2) (req true (req true (∃ y1 : Bool, (days_Leap_R a0 y1) ∧ (req true (br y1 (req true (req true (req true (req true (req true (req true ((IntKind.wrap .i64 ((List.getD longL (offN 0 a1 1) 0) + 1)) = y))))))) (req true (req true (req true ((List.getD longL (offN 0 a1 1) 0) = y))))))))) (req true (req true (req true (req true ((List.getD longL (offN 0 a1 1) 0) = y)))))))))))))))))))))) := by kernel_rfl
theorem days_Long_run (a0 : Int) (a1 : Int) (y : Int) (h : days_Long_R a0 a1 y) : acall days_Long_cx okT lpT 60 (.fn 130 [] []) [(V.int .i64 a0), (V.int .i64 a1)] [] (leafK (.int .i64) y) := by
  refine cast (days_Long_tree a0 a1 y).symm ?_
  unfold days_Long_R at h
  iterate 4 refine req_intro rfl ?_
  refine br_both h (fun hb h => ?_) (fun hb h => ?_)
  · iterate 2 refine req_intro rfl ?_
    exact req_intro rfl h
  · iterate 3 refine req_intro rfl ?_
    refine br_both h (fun hb h => ?_) (fun hb h => ?_)
    · refine req_intro rfl ?_
      exact req_intro rfl h
    · refine req_intro rfl ?_
      obtain ⟨q, h⟩ := req_of h
      refine req_intro (band (band_l q) (band_r q)) ?_
      obtain ⟨q, h⟩ := req_of h
      refine req_intro q ?_
      iterate 4 refine req_intro rfl ?_
      refine br_both h (fun hb h => ?_) (fun hb h => ?_)
      · iterate 2 refine req_intro rfl ?_
        obtain ⟨y1, ry1, h⟩ := h
        refine ⟨y1, ry1, ?_⟩
        refine req_intro rfl ?_
        refine br_both h (fun hb h => ?_) (fun hb h => ?_)
        · iterate 5 refine req_intro rfl ?_
          exact req_intro rfl h
        · iterate 2 refine req_intro rfl ?_
          exact req_intro rfl h
      · iterate 3 refine req_intro rfl ?_
        exact req_intro rfl h
theorem days_Long_ok : FxOk Tryd.prog gsT 130 (.cons (.int .i64) (.one (.int .i64))) (.int .i64) fun x y => days_Long_R (x.1) (x.2) y := fx_of (c := days_Long_cx) (ty_ok rfl) (eq_ok rfl) days_Long_fns follows_ok (ok := okT) (lp := lpT) (n := 60) lp_ok (enters Tryd.func130 (by kernel_rfl) rfl) (fun y => ⟨_, rfl⟩) fun x y h => days_Long_run _ _ y h
noncomputable def days_Check_cx : Cx := ⟨tyT, [(114, .body Tryd.f114),
  (130, .fx (.cons (.int .i64) (.one (.int .i64))) (.int .i64) fun x y => days_Long_R (x.1) (x.2) y)], gsT, eqT⟩
theorem days_Check_fns : FnsOk Tryd.prog days_Check_cx := Fns_assoc ⟨body_ent Tryd.func114 (by kernel_rfl) (by kernel_rfl), days_Long_ok, trivial⟩
def days_Check_R (a0 : Int) (a1 : Int) (a2 : Int) (y : Int) : Prop :=
  (br (decide (a0 < 1970)) (140 = y) (br (decide (a0 > 9999)) (140 = y) (br (decide (a2 < 1)) (140 = y) (∃ y1 : Int, (days_Long_R a0 a1 y1) ∧ (br (decide (a2 > y1)) (140 = y) (0 = y))))))
theorem days_Check_tree (a0 : Int) (a1 : Int) (a2 : Int) (y : Int) : acall days_Check_cx okT lpT 60 (.fn 114 [] []) [(V.agg [(V.int .i64 a0), (V.int .i64 a1), (V.int .i64 a2)])] [] (leafK (.int .i64) y) =
    (req true (req true (req true (req true (req true (req true (br (decide (a0 < 1970)) (req true (req true (req true (req true (req true (req true (req true (140 = y)))))))) (req true (req true (req true (req true (req true (br (decide (a0 > 9999)) (req true (req true (req true (req true (req true (140 = y)))))) (req true (req true (req true (req true (req true (br (decide (a2 < 1)) (req true (req true (req true (140 = y)))) (req true (req true (req true (req true (req true (req true (req true (∃ y1 : Int, (days_Long_R a0 a1 y1) ∧ (req true (req true (br (decide (a2 > y1)) (req true (req true (140 = y))) (req true (req true (0 = y))))))))))))))))))))))))))))))))) := by kernel_rfl
theorem days_Check_run (a0 : Int) (a1 : Int) (a2 : Int) (y : Int) (h : days_Check_R a0 a1 a2 y) : acall days_Check_cx okT lpT 60 (.fn 114 [] []) [(V.agg [(V.int .i64 a0), (V.int .i64 a1), (V.int .i64 a2)])] [] (leafK (.int .i64) y) := by
  refine cast (days_Check_tree a0 a1 a2 y).symm ?_
  unfold days_Check_R at h
  iterate 6 refine req_intro rfl ?_
  refine br_both h (fun hb h => ?_) (fun hb h => ?_)
  · iterate 6 refine req_intro rfl ?_
    exact req_intro rfl h
  · iterate 5 refine req_intro rfl ?_
    refine br_both h (fun hb h => ?_) (fun hb h => ?_)
    · iterate 4 refine req_intro rfl ?_
      exact req_intro rfl h
    · iterate 5 refine req_intro rfl ?_
      refine br_both h (fun hb h => ?_) (fun hb h => ?_)
      · iterate 2 refine req_intro rfl ?_
        exact req_intro rfl h
      · iterate 7 refine req_intro rfl ?_
        obtain ⟨y1, ry1, h⟩ := h
        refine ⟨y1, ry1, ?_⟩
        iterate 2 refine req_intro rfl ?_
        refine br_both h (fun hb h => ?_) (fun hb h => ?_)
        · refine req_intro rfl ?_
          exact req_intro rfl h
        · refine req_intro rfl ?_
          exact req_intro rfl h
theorem days_Check_ok : FxOk Tryd.prog gsT 114 (.one (.agg (.cons (.int .i64) (.cons (.int .i64) (.one (.int .i64)))))) (.int .i64) fun x y => days_Check_R (x.1) (x.2.1) (x.2.2) y := fx_of (c := days_Check_cx) (ty_ok rfl) (eq_ok rfl) days_Check_fns follows_ok (ok := okT) (lp := lpT) (n := 60) lp_ok (enters Tryd.func114 (by kernel_rfl) rfl) (fun y => ⟨_, rfl⟩) fun x y h => days_Check_run _ _ _ y h
noncomputable def days_Of_cx : Cx := ⟨tyT, [(85, .body Tryd.f85),
  (113, .fx (.one (.int .i64)) (.int .i64) fun x y => days_months_R x y),
  (114, .fx (.one (.agg (.cons (.int .i64) (.cons (.int .i64) (.one (.int .i64)))))) (.int .i64) fun x y => days_Check_R (x.1) (x.2.1) (x.2.2) y)], gsT, eqT⟩
theorem days_Of_fns : FnsOk Tryd.prog days_Of_cx := Fns_assoc ⟨body_ent Tryd.func85 (by kernel_rfl) (by kernel_rfl), days_months_ok, days_Check_ok, trivial⟩
def days_Of_R (a0 : Int) (a1 : Int) (a2 : Int) (y : Int × Int) : Prop :=
  (∃ y1 : Int, (days_Check_R a0 a1 a2 y1) ∧ (br (y1 != 0) ((0, y1) = y) (br (decide ((IntKind.wrap .i64 (a1 - 3)) < 0)) (∃ y2 : Int, (days_months_R (IntKind.wrap .i64 ((IntKind.wrap .i64 (a1 - 3)) + 12)) y2) ∧ (((IntKind.wrap .i64 ((IntKind.wrap .i64 ((IntKind.wrap .i64 ((IntKind.wrap .i64 ((IntKind.wrap .i64 ((IntKind.wrap .i64 ((IntKind.wrap .i64 ((IntKind.wrap .i64 ((IntKind.wrap .i64 (a0 - 1)) * 365)) + (IntKind.wrap .i64 (Int.tdiv (IntKind.wrap .i64 (a0 - 1)) 4)))) - (IntKind.wrap .i64 (Int.tdiv (IntKind.wrap .i64 (a0 - 1)) 100)))) + (IntKind.wrap .i64 (Int.tdiv (IntKind.wrap .i64 (a0 - 1)) 400)))) + y2)) + a2)) - 1)) - 719468)), 0) = y)) (∃ y3 : Int, (days_months_R (IntKind.wrap .i64 (a1 - 3)) y3) ∧ (((IntKind.wrap .i64 ((IntKind.wrap .i64 ((IntKind.wrap .i64 ((IntKind.wrap .i64 ((IntKind.wrap .i64 ((IntKind.wrap .i64 ((IntKind.wrap .i64 ((IntKind.wrap .i64 (a0 * 365)) + (IntKind.wrap .i64 (Int.tdiv a0 4)))) - (IntKind.wrap .i64 (Int.tdiv a0 100)))) + (IntKind.wrap .i64 (Int.tdiv a0 400)))) + y3)) + a2)) - 1)) - 719468)), 0) = y)))))
theorem days_Of_tree (a0 : Int) (a1 : Int) (a2 : Int) (y : Int × Int) : acall days_Of_cx okT lpT 60 (.fn 85 [] []) [(V.agg [(V.int .i64 a0), (V.int .i64 a1), (V.int .i64 a2)])] [] (leafK (.tup (.cons (.int .i64) (.one (.int .i64)))) y) =
    (req true (req true (req true (req true (∃ y1 : Int, (days_Check_R a0 a1 a2 y1) ∧ (req true (req true (req true (br (y1 != 0) (req true (req true (req true (req true ((0, y1) = y))))) (req true (req true (req true (req true (req true (req true (req true (req true (req true (req true (br (decide ((IntKind.wrap .i64 (a1 - 3)) < 0)) (req true (req true (req true (req true (req true (req true (req true (req true (req true (req true (req true (req true (req true (req true (req true (req true (req true (req true (req true (req true (∃ y2 : Int, (days_months_R (IntKind.wrap .i64 ((IntKind.wrap .i64 (a1 - 3)) + 12)) y2) ∧ (req true (req true (req true (req true (req true (req true (req true (req true (req true (((IntKind.wrap .i64 ((IntKind.wrap .i64 ((IntKind.wrap .i64 ((IntKind.wrap .i64 ((IntKind.wrap .i64 ((IntKind.wrap .i64 ((IntKind.wrap .i64 ((IntKind.wrap .i64 ((IntKind.wrap .i64 (a0 - 1)) * 365)) + (IntKind.wrap .i64 (Int.tdiv (IntKind.wrap .i64 (a0 - 1)) 4)))) - (IntKind.wrap .i64 (Int.tdiv (IntKind.wrap .i64 (a0 - 1)) 100)))) + (IntKind.wrap .i64 (Int.tdiv (IntKind.wrap .i64 (a0 - 1)) 400)))) + y2)) + a2)) - 1)) - 719468)), 0) = y))))))))))))))))))))))))))))))) (req true (req true (req true (req true (req true (req true (req true (req true (req true (req true (req true (req true (req true (req true (∃ y3 : Int, (days_months_R (IntKind.wrap .i64 (a1 - 3)) y3) ∧ (req true (req true (req true (req true (req true (req true (req true (req true (req true (((IntKind.wrap .i64 ((IntKind.wrap .i64 ((IntKind.wrap .i64 ((IntKind.wrap .i64 ((IntKind.wrap .i64 ((IntKind.wrap .i64 ((IntKind.wrap .i64 ((IntKind.wrap .i64 (a0 * 365)) + (IntKind.wrap .i64 (Int.tdiv a0 4)))) - (IntKind.wrap .i64 (Int.tdiv a0 100)))) + (IntKind.wrap .i64 (Int.tdiv a0 400)))) + y3)) + a2)) - 1)) - 719468)), 0) = y))))))))))))))))))))))))))))))))))))))))))))) := by kernel_rfl
theorem days_Of_run (a0 : Int) (a1 : Int) (a2 : Int) (y : Int × Int) (h : days_Of_R a0 a1 a2 y) : acall days_Of_cx okT lpT 60 (.fn 85 [] []) [(V.agg [(V.int .i64 a0), (V.int .i64 a1), (V.int .i64 a2)])] [] (leafK (.tup (.cons (.int .i64) (.one (.int .i64)))) y) := by
  refine cast (days_Of_tree a0 a1 a2 y).symm ?_
  unfold days_Of_R at h
  iterate 4 refine req_intro rfl ?_
  obtain ⟨y1, ry1, h⟩ := h
  refine ⟨y1, ry1, ?_⟩
  iterate 3 refine req_intro rfl ?_
  refine br_both h (fun hb h => ?_) (fun hb h => ?_)
  · iterate 3 refine req_intro rfl ?_
    exact req_intro rfl h
  · iterate 10 refine req_intro rfl ?_
    refine br_both h (fun hb h => ?_) (fun hb h => ?_)
    · iterate 20 refine req_intro rfl ?_
      obtain ⟨y2, ry2, h⟩ := h
      refine ⟨y2, ry2, ?_⟩
      iterate 8 refine req_intro rfl ?_
      exact req_intro rfl h
    · iterate 14 refine req_intro rfl ?_
      obtain ⟨y3, ry3, h⟩ := h
      refine ⟨y3, ry3, ?_⟩
      iterate 8 refine req_intro rfl ?_
      exact req_intro rfl h
theorem days_Of_ok : FxOk Tryd.prog gsT 85 (.one (.agg (.cons (.int .i64) (.cons (.int .i64) (.one (.int .i64)))))) (.tup (.cons (.int .i64) (.one (.int .i64)))) fun x y => days_Of_R (x.1) (x.2.1) (x.2.2) y := fx_of (c := days_Of_cx) (ty_ok rfl) (eq_ok rfl) days_Of_fns follows_ok (ok := okT) (lp := lpT) (n := 60) lp_ok (enters Tryd.func85 (by kernel_rfl) rfl) (fun y => ⟨_, rfl⟩) fun x y h => days_Of_run _ _ _ y h
noncomputable def days_day_cx : Cx := ⟨tyT, [(112, .body Tryd.f112)], gsT, eqT⟩
theorem days_day_fns : FnsOk Tryd.prog days_day_cx := Fns_assoc ⟨body_ent Tryd.func112 (by kernel_rfl) (by kernel_rfl), trivial⟩
def days_day_R (a0 : Int) (y : Bool) : Prop :=
  (br (decide (a0 ≥ 0)) ((decide (a0 ≤ 2932896)) = y) (false = y))
theorem days_day_tree (a0 : Int) (y : Bool) : acall days_day_cx okT lpT 60 (.fn 112 [] []) [(V.int .i64 a0)] [] (leafK .bool y) =
    (req true (req true (req true (req true (br (decide (a0 ≥ 0)) (req true (req true (req true (req true (req true ((decide (a0 ≤ 2932896)) = y)))))) (req true (req true (req true (false = y))))))))) := by kernel_rfl
theorem days_day_run (a0 : Int) (y : Bool) (h : days_day_R a0 y) : acall days_day_cx okT lpT 60 (.fn 112 [] []) [(V.int .i64 a0)] [] (leafK .bool y) := by
  refine cast (days_day_tree a0 y).symm ?_
  unfold days_day_R at h
  iterate 4 refine req_intro rfl ?_
  refine br_both h (fun hb h => ?_) (fun hb h => ?_)
  · iterate 4 refine req_intro rfl ?_
    exact req_intro rfl h
  · iterate 2 refine req_intro rfl ?_
    exact req_intro rfl h
theorem days_day_ok : FxOk Tryd.prog gsT 112 (.one (.int .i64)) .bool fun x y => days_day_R x y := fx_of (c := days_day_cx) (ty_ok rfl) (eq_ok rfl) days_day_fns follows_ok (ok := okT) (lp := lpT) (n := 60) lp_ok (enters Tryd.func112 (by kernel_rfl) rfl) (fun y => ⟨_, rfl⟩) fun x y h => days_day_run _ y h
noncomputable def days_Weekday_cx : Cx := ⟨tyT, [(86, .body Tryd.f86),
  (112, .fx (.one (.int .i64)) .bool fun x y => days_day_R x y)], gsT, eqT⟩
theorem days_Weekday_fns : FnsOk Tryd.prog days_Weekday_cx := Fns_assoc ⟨body_ent Tryd.func86 (by kernel_rfl) (by kernel_rfl), days_day_ok, trivial⟩
def days_Weekday_R (a0 : Int) (y : Int × Int) : Prop :=
  (∃ y1 : Bool, (days_day_R a0 y1) ∧ (br (!y1) ((0, 2) = y) (((Int.tmod (IntKind.wrap .i64 (a0 + 4)) 7), 0) = y)))
theorem days_Weekday_tree (a0 : Int) (y : Int × Int) : acall days_Weekday_cx okT lpT 60 (.fn 86 [] []) [(V.int .i64 a0)] [] (leafK (.tup (.cons (.int .i64) (.one (.int .i64)))) y) =
    (req true (req true (req true (req true (∃ y1 : Bool, (days_day_R a0 y1) ∧ (req true (br (!y1) (req true (req true (req true ((0, 2) = y)))) (req true (req true (req true (req true (req true (req true (((Int.tmod (IntKind.wrap .i64 (a0 + 4)) 7), 0) = y)))))))))))))) := by kernel_rfl
theorem days_Weekday_run (a0 : Int) (y : Int × Int) (h : days_Weekday_R a0 y) : acall days_Weekday_cx okT lpT 60 (.fn 86 [] []) [(V.int .i64 a0)] [] (leafK (.tup (.cons (.int .i64) (.one (.int .i64)))) y) := by
  refine cast (days_Weekday_tree a0 y).symm ?_
  unfold days_Weekday_R at h
  iterate 4 refine req_intro rfl ?_
  obtain ⟨y1, ry1, h⟩ := h
  refine ⟨y1, ry1, ?_⟩
  refine req_intro rfl ?_
  refine br_both h (fun hb h => ?_) (fun hb h => ?_)
  · iterate 2 refine req_intro rfl ?_
    exact req_intro rfl h
  · iterate 5 refine req_intro rfl ?_
    exact req_intro rfl h
theorem days_Weekday_ok : FxOk Tryd.prog gsT 86 (.one (.int .i64)) (.tup (.cons (.int .i64) (.one (.int .i64)))) fun x y => days_Weekday_R x y := fx_of (c := days_Weekday_cx) (ty_ok rfl) (eq_ok rfl) days_Weekday_fns follows_ok (ok := okT) (lp := lpT) (n := 60) lp_ok (enters Tryd.func86 (by kernel_rfl) rfl) (fun y => ⟨_, rfl⟩) fun x y h => days_Weekday_run _ y h
noncomputable def cron_Day_cx : Cx := ⟨tyT, [(23, .fx (.one (.agg (.cons (.int .u64) (.cons (.int .u64) (.cons (.int .u64) (.cons (.int .u64) (.one (.int .u64)))))))) (.int .i64) fun x y => cron_Check_R (x.1) (x.2.1) (x.2.2.1) (x.2.2.2.1) (x.2.2.2.2) y),
  (52, .body Tryd.f52),
  (53, .fx (.cons (.int .u64) (.one (.int .i64))) .bool fun x y => mask_Has_R (x.1) (x.2) y),
  (83, .fx (.one (.int .i64)) (.int .u64) fun x y => field_Whole_R x y),
  (85, .fx (.one (.agg (.cons (.int .i64) (.cons (.int .i64) (.one (.int .i64)))))) (.tup (.cons (.int .i64) (.one (.int .i64)))) fun x y => days_Of_R (x.1) (x.2.1) (x.2.2) y),
  (86, .fx (.one (.int .i64)) (.tup (.cons (.int .i64) (.one (.int .i64)))) fun x y => days_Weekday_R x y)], gsT, eqT⟩
theorem cron_Day_fns : FnsOk Tryd.prog cron_Day_cx := Fns_assoc ⟨cron_Check_ok, body_ent Tryd.func52 (by kernel_rfl) (by kernel_rfl), mask_Has_ok, field_Whole_ok, days_Of_ok, days_Weekday_ok, trivial⟩
def cron_Day_R (a0 : Int) (a1 : Int) (a2 : Int) (a3 : Int) (a4 : Int) (a5 : Int) (a6 : Int) (a7 : Int) (y : Bool) : Prop :=
  (∃ y1 : Int × Int, (days_Of_R a5 a6 a7 y1) ∧ (∃ y2 : Int × Int, (days_Weekday_R (y1.1) y2) ∧ (∃ y3 : Int, (cron_Check_R a0 a1 a2 a3 a4 y3) ∧ (br (y3 != 0) (false = y) (br ((y1.2) != 0) (false = y) (br ((y2.2) != 0) (false = y) (∃ y4 : Bool, (mask_Has_R a3 a6 y4) ∧ (br (!y4) (false = y) (∃ y5 : Bool, (mask_Has_R a2 a7 y5) ∧ (∃ y6 : Bool, (mask_Has_R a4 (y2.1) y6) ∧ (∃ y7 : Int, (field_Whole_R 2 y7) ∧ (br (a2 == y7) (br y5 (y6 = y) (false = y)) (∃ y8 : Int, (field_Whole_R 4 y8) ∧ (br (a4 == y8) (br y5 (y6 = y) (false = y)) (br y5 (true = y) (y6 = y))))))))))))))))
theorem cron_Day_tree (a0 : Int) (a1 : Int) (a2 : Int) (a3 : Int) (a4 : Int) (a5 : Int) (a6 : Int) (a7 : Int) (y : Bool) : acall cron_Day_cx okT lpT 60 (.fn 52 [] []) [(V.agg [(V.int .u64 a0), (V.int .u64 a1), (V.int .u64 a2), (V.int .u64 a3), (V.int .u64 a4)]), (V.agg [(V.int .i64 a5), (V.int .i64 a6), (V.int .i64 a7)])] [] (leafK .bool y) =
    (req true (req true (req true (∃ y1 : Int × Int, (days_Of_R a5 a6 a7 y1) ∧ (req true (req true (req true (req true (req true (req true (req true (∃ y2 : Int × Int, (days_Weekday_R (y1.1) y2) ∧ (req true (req true (req true (req true (req true (req true (req true (∃ y3 : Int, (cron_Check_R a0 a1 a2 a3 a4 y3) ∧ (req true (req true (br (y3 != 0) (req true (req true (req true (req true (req true (req true (req true (false = y)))))))) (req true (req true (req true (req true (br ((y1.2) != 0) (req true (req true (req true (req true (req true (false = y)))))) (req true (req true (req true (req true (br ((y2.2) != 0) (req true (req true (req true (false = y)))) (req true (req true (req true (req true (req true (∃ y4 : Bool, (mask_Has_R a3 a6 y4) ∧ (req true (req true (br (!y4) (req true (req true (false = y))) (req true (req true (req true (req true (req true (req true (∃ y5 : Bool, (mask_Has_R a2 a7 y5) ∧ (req true (req true (req true (req true (∃ y6 : Bool, (mask_Has_R a4 (y2.1) y6) ∧ (req true (req true (req true (req true (req true (req true (∃ y7 : Int, (field_Whole_R 2 y7) ∧ (req true (req true (br (a2 == y7) (req true (req true (req true (br y5 (req true (req true (req true (req true (y6 = y))))) (req true (req true (req true (false = y)))))))) (req true (req true (req true (∃ y8 : Int, (field_Whole_R 4 y8) ∧ (req true (req true (br (a4 == y8) (req true (req true (br y5 (req true (req true (req true (req true (y6 = y))))) (req true (req true (req true (false = y))))))) (req true (req true (br y5 (req true (req true (req true (true = y)))) (req true (req true (req true (req true (y6 = y))))))))))))))))))))))))))))))))))))))))))))))))))))))))))))))))))))))))))))))) := by kernel_rfl
theorem cron_Day_run (a0 : Int) (a1 : Int) (a2 : Int) (a3 : Int) (a4 : Int) (a5 : Int) (a6 : Int) (a7 : Int) (y : Bool) (h : cron_Day_R a0 a1 a2 a3 a4 a5 a6 a7 y) : acall cron_Day_cx okT lpT 60 (.fn 52 [] []) [(V.agg [(V.int .u64 a0), (V.int .u64 a1), (V.int .u64 a2), (V.int .u64 a3), (V.int .u64 a4)]), (V.agg [(V.int .i64 a5), (V.int .i64 a6), (V.int .i64 a7)])] [] (leafK .bool y) := by
  refine cast (cron_Day_tree a0 a1 a2 a3 a4 a5 a6 a7 y).symm ?_
  unfold cron_Day_R at h
  iterate 3 refine req_intro rfl ?_
  obtain ⟨y1, ry1, h⟩ := h
  refine ⟨y1, ry1, ?_⟩
  iterate 7 refine req_intro rfl ?_
  obtain ⟨y2, ry2, h⟩ := h
  refine ⟨y2, ry2, ?_⟩
  iterate 7 refine req_intro rfl ?_
  obtain ⟨y3, ry3, h⟩ := h
  refine ⟨y3, ry3, ?_⟩
  iterate 2 refine req_intro rfl ?_
  refine br_both h (fun hb h => ?_) (fun hb h => ?_)
  · iterate 6 refine req_intro rfl ?_
    exact req_intro rfl h
  · iterate 4 refine req_intro rfl ?_
    refine br_both h (fun hb h => ?_) (fun hb h => ?_)
    · iterate 4 refine req_intro rfl ?_
      exact req_intro rfl h
    · iterate 4 refine req_intro rfl ?_
      refine br_both h (fun hb h => ?_) (fun hb h => ?_)
      · iterate 2 refine req_intro rfl ?_
        exact req_intro rfl h
      · iterate 5 refine req_intro rfl ?_
        obtain ⟨y4, ry4, h⟩ := h
        refine ⟨y4, ry4, ?_⟩
        iterate 2 refine req_intro rfl ?_
        refine br_both h (fun hb h => ?_) (fun hb h => ?_)
        · refine req_intro rfl ?_
          exact req_intro rfl h
        · iterate 6 refine req_intro rfl ?_
          obtain ⟨y5, ry5, h⟩ := h
          refine ⟨y5, ry5, ?_⟩
          iterate 4 refine req_intro rfl ?_
          obtain ⟨y6, ry6, h⟩ := h
          refine ⟨y6, ry6, ?_⟩
          iterate 6 refine req_intro rfl ?_
          obtain ⟨y7, ry7, h⟩ := h
          refine ⟨y7, ry7, ?_⟩
          iterate 2 refine req_intro rfl ?_
          refine br_both h (fun hb h => ?_) (fun hb h => ?_)
          · iterate 3 refine req_intro rfl ?_
            refine br_both h (fun hb h => ?_) (fun hb h => ?_)
            · iterate 3 refine req_intro rfl ?_
              exact req_intro rfl h
            · iterate 2 refine req_intro rfl ?_
              exact req_intro rfl h
          · iterate 3 refine req_intro rfl ?_
            obtain ⟨y8, ry8, h⟩ := h
            refine ⟨y8, ry8, ?_⟩
            iterate 2 refine req_intro rfl ?_
            refine br_both h (fun hb h => ?_) (fun hb h => ?_)
            · iterate 2 refine req_intro rfl ?_
              refine br_both h (fun hb h => ?_) (fun hb h => ?_)
              · iterate 3 refine req_intro rfl ?_
                exact req_intro rfl h
              · iterate 2 refine req_intro rfl ?_
                exact req_intro rfl h
            · iterate 2 refine req_intro rfl ?_
              refine br_both h (fun hb h => ?_) (fun hb h => ?_)
              · iterate 2 refine req_intro rfl ?_
                exact req_intro rfl h
              · iterate 3 refine req_intro rfl ?_
                exact req_intro rfl h
theorem cron_Day_ok : FxOk Tryd.prog gsT 52 (.cons (.agg (.cons (.int .u64) (.cons (.int .u64) (.cons (.int .u64) (.cons (.int .u64) (.one (.int .u64))))))) (.one (.agg (.cons (.int .i64) (.cons (.int .i64) (.one (.int .i64))))))) .bool fun x y => cron_Day_R (x.1.1) (x.1.2.1) (x.1.2.2.1) (x.1.2.2.2.1) (x.1.2.2.2.2) (x.2.1) (x.2.2.1) (x.2.2.2) y := fx_of (c := cron_Day_cx) (ty_ok rfl) (eq_ok rfl) cron_Day_fns follows_ok (ok := okT) (lp := lpT) (n := 60) lp_ok (enters Tryd.func52 (by kernel_rfl) rfl) (fun y => ⟨_, rfl⟩) fun x y h => cron_Day_run _ _ _ _ _ _ _ _ y h
noncomputable def days_At_cx : Cx := ⟨tyT, [(84, .body Tryd.f84),
  (112, .fx (.one (.int .i64)) .bool fun x y => days_day_R x y),
  (113, .fx (.one (.int .i64)) (.int .i64) fun x y => days_months_R x y)], gsT, eqT⟩
theorem days_At_fns : FnsOk Tryd.prog days_At_cx := Fns_assoc ⟨body_ent Tryd.func84 (by kernel_rfl) (by kernel_rfl), days_day_ok, days_months_ok, trivial⟩
noncomputable def days_At_l0_body : Code := subC [1, 0, 1, 1, 1, 0, 1, 0, 0] (bodyOf Tryd.f84)
abbrev days_At_l0_Z : Type := Int × Int × Int
abbrev days_At_l0_Y : Type := Int × Int
abbrev days_At_l0_C : Type := Unit
abbrev days_At_l0_Q : Type := Unit
noncomputable def days_At_l0_st (z2 : days_At_l0_Z) (z2q : days_At_l0_Q) (z2c : days_At_l0_C) : S := ⟨[(0, (V.int .i64 (z2.1))), (2, (V.ptr 0 0)), (3, (V.int .i64 0)), (4, (V.int .i64 (z2.2.1))), (20, (V.agg [(V.int .i64 146097), (V.int .i64 400), (V.int .i64 100), (V.int .i64 36524), (V.int .i64 100), (V.int .i64 3), (V.int .i64 1461), (V.int .i64 4), (V.int .i64 24), (V.int .i64 365), (V.int .i64 1), (V.int .i64 3)])), (21, (V.int .i64 (z2.2.2)))], [(Blk.cells [(V.int .i64 0), (V.int .i64 0), (V.int .i64 0)])], []⟩
def days_At_l0_K (K : Ret → S → Prop) (z2 : days_At_l0_Z) (z2q : days_At_l0_Q) (y3 : days_At_l0_Y) : Prop := K (.exit 0) ⟨[(0, (V.int .i64 (y3.1))), (2, (V.ptr 0 0)), (3, (V.int .i64 0)), (4, (V.int .i64 (y3.2)))], [(Blk.cells [(V.int .i64 0), (V.int .i64 0), (V.int .i64 0)])], []⟩
def days_At_l0 : Nat → days_At_l0_Z → days_At_l0_Y → Prop
  | 0, _, _ => False
  | k + 1, z2, y3_ => (br (decide ((z2.2.2) < 4)) (req (((decide (0 ≤ (z2.2.2))) && (decide ((z2.2.2) < 4))) && (Nat.ble (((Int.toNat (z2.2.2)) * 3) + 3) 12)) (req (!((List.getD ([146097, 400, 100, 36524, 100, 3, 1461, 4, 24, 365, 1, 3] : List Int) (((Int.toNat (z2.2.2)) * 3) + 0) 0) == 0)) (days_At_l0 k ((IntKind.wrap .i64 ((z2.1) - (IntKind.wrap .i64 ((if (List.getD ([146097, 400, 100, 36524, 100, 3, 1461, 4, 24, 365, 1, 3] : List Int) (((Int.toNat (z2.2.2)) * 3) + 2) 0) < (IntKind.wrap .i64 (Int.tdiv (z2.1) (List.getD ([146097, 400, 100, 36524, 100, 3, 1461, 4, 24, 365, 1, 3] : List Int) (((Int.toNat (z2.2.2)) * 3) + 0) 0))) then (List.getD ([146097, 400, 100, 36524, 100, 3, 1461, 4, 24, 365, 1, 3] : List Int) (((Int.toNat (z2.2.2)) * 3) + 2) 0) else (IntKind.wrap .i64 (Int.tdiv (z2.1) (List.getD ([146097, 400, 100, 36524, 100, 3, 1461, 4, 24, 365, 1, 3] : List Int) (((Int.toNat (z2.2.2)) * 3) + 0) 0)))) * (List.getD ([146097, 400, 100, 36524, 100, 3, 1461, 4, 24, 365, 1, 3] : List Int) (((Int.toNat (z2.2.2)) * 3) + 0) 0))))), (IntKind.wrap .i64 ((z2.2.1) + (IntKind.wrap .i64 ((if (List.getD ([146097, 400, 100, 36524, 100, 3, 1461, 4, 24, 365, 1, 3] : List Int) (((Int.toNat (z2.2.2)) * 3) + 2) 0) < (IntKind.wrap .i64 (Int.tdiv (z2.1) (List.getD ([146097, 400, 100, 36524, 100, 3, 1461, 4, 24, 365, 1, 3] : List Int) (((Int.toNat (z2.2.2)) * 3) + 0) 0))) then (List.getD ([146097, 400, 100, 36524, 100, 3, 1461, 4, 24, 365, 1, 3] : List Int) (((Int.toNat (z2.2.2)) * 3) + 2) 0) else (IntKind.wrap .i64 (Int.tdiv (z2.1) (List.getD ([146097, 400, 100, 36524, 100, 3, 1461, 4, 24, 365, 1, 3] : List Int) (((Int.toNat (z2.2.2)) * 3) + 0) 0)))) * (List.getD ([146097, 400, 100, 36524, 100, 3, 1461, 4, 24, 365, 1, 3] : List Int) (((Int.toNat (z2.2.2)) * 3) + 1) 0))))), (IntKind.wrap .i64 ((z2.2.2) + 1))) y3_))) (((z2.1), (z2.2.1)) = y3_))
def days_At_l0_L (z : days_At_l0_Z) (y : days_At_l0_Y) : Prop := ∃ k, days_At_l0 k z y
noncomputable def days_At_l0_lp : Lp := .auto none days_At_l0_body (loopG 1 days_At_l0_st (fun z y => ∃ k, days_At_l0 k z y) days_At_l0_K)
noncomputable def days_At_l1_body : Code := subC [1, 0, 1, 1, 1, 1, 1, 1, 0, 0, 0] (bodyOf Tryd.f84)
abbrev days_At_l1_Z : Type := Int × Int × Int
abbrev days_At_l1_Y : Type := Int
abbrev days_At_l1_C : Type := Unit
abbrev days_At_l1_Q : Type := Unit
noncomputable def days_At_l1_st (z6 : days_At_l1_Z) (z6q : days_At_l1_Q) (z6c : days_At_l1_C) : S := ⟨[(0, (V.int .i64 (z6.1))), (2, (V.ptr 0 0)), (3, (V.int .i64 0)), (4, (V.int .i64 (z6.2.1))), (8, (V.int .i64 (z6.2.2)))], [(Blk.cells [(V.int .i64 0), (V.int .i64 0), (V.int .i64 0)])], []⟩
def days_At_l1_K (K : Ret → S → Prop) (z6 : days_At_l1_Z) (z6q : days_At_l1_Q) (y7 : days_At_l1_Y) : Prop := K (.exit 2) ⟨[(0, (V.int .i64 (z6.1))), (2, (V.ptr 0 0)), (3, (V.int .i64 0)), (4, (V.int .i64 (z6.2.1))), (8, (V.int .i64 y7))], [(Blk.cells [(V.int .i64 0), (V.int .i64 0), (V.int .i64 0)])], []⟩
def days_At_l1 : Nat → days_At_l1_Z → days_At_l1_Y → Prop
  | 0, _, _ => False
  | k + 1, z6, y7_ => (∃ y8 : Int, (days_months_R (IntKind.wrap .i64 ((z6.2.2) + 1)) y8) ∧ (br (decide (y8 > (z6.1))) ((z6.2.2) = y7_) (days_At_l1 k ((z6.1), (z6.2.1), (IntKind.wrap .i64 ((z6.2.2) + 1))) y7_)))
def days_At_l1_L (z : days_At_l1_Z) (y : days_At_l1_Y) : Prop := ∃ k, days_At_l1 k z y
noncomputable def days_At_l1_lp : Lp := .auto none days_At_l1_body (loopG 1 days_At_l1_st (fun z y => ∃ k, days_At_l1 k z y) days_At_l1_K)
noncomputable def days_At_lp : Nat → FuncId → Nat → Nat → Lp := lpTab [(84, 6, 1, 0, days_At_l0_lp), (84, 12, 1, 1, days_At_l1_lp)]
theorem days_At_l0_round (n : Nat) (z2 : days_At_l0_Z) (z2q : days_At_l0_Q) (z2c : days_At_l0_C) (K : Ret → S → Prop) (next : S → Prop) : acode days_At_cx 84 (acall days_At_cx okT days_At_lp (n + 0)) kept (days_At_lp (n + 0) 84) none days_At_l0_body (iterK (wkK 1 K) next) (days_At_l0_st z2 z2q z2c) =
    (req true (br (decide ((z2.2.2) < 4)) (req (((decide (0 ≤ (z2.2.2))) && (decide ((z2.2.2) < 4))) && (Nat.ble (((Int.toNat (z2.2.2)) * 3) + 3) 12)) (req true (req true (req true (req true (req (!((List.getD ([146097, 400, 100, 36524, 100, 3, 1461, 4, 24, 365, 1, 3] : List Int) (((Int.toNat (z2.2.2)) * 3) + 0) 0) == 0)) (req true (req true (req true (req true (req true (req true (req true (req true (req true (req true (req true (req true (req true (req true (req true (req true (req true (req true (req true (req true (req true (next ⟨[(0, (V.int .i64 (IntKind.wrap .i64 ((z2.1) - (IntKind.wrap .i64 ((if (List.getD ([146097, 400, 100, 36524, 100, 3, 1461, 4, 24, 365, 1, 3] : List Int) (((Int.toNat (z2.2.2)) * 3) + 2) 0) < (IntKind.wrap .i64 (Int.tdiv (z2.1) (List.getD ([146097, 400, 100, 36524, 100, 3, 1461, 4, 24, 365, 1, 3] : List Int) (((Int.toNat (z2.2.2)) * 3) + 0) 0))) then (List.getD ([146097, 400, 100, 36524, 100, 3, 1461, 4, 24, 365, 1, 3] : List Int) (((Int.toNat (z2.2.2)) * 3) + 2) 0) else (IntKind.wrap .i64 (Int.tdiv (z2.1) (List.getD ([146097, 400, 100, 36524, 100, 3, 1461, 4, 24, 365, 1, 3] : List Int) (((Int.toNat (z2.2.2)) * 3) + 0) 0)))) * (List.getD ([146097, 400, 100, 36524, 100, 3, 1461, 4, 24, 365, 1, 3] : List Int) (((Int.toNat (z2.2.2)) * 3) + 0) 0))))))), (2, (V.ptr 0 0)), (3, (V.int .i64 0)), (4, (V.int .i64 (IntKind.wrap .i64 ((z2.2.1) + (IntKind.wrap .i64 ((if (List.getD ([146097, 400, 100, 36524, 100, 3, 1461, 4, 24, 365, 1, 3] : List Int) (((Int.toNat (z2.2.2)) * 3) + 2) 0) < (IntKind.wrap .i64 (Int.tdiv (z2.1) (List.getD ([146097, 400, 100, 36524, 100, 3, 1461, 4, 24, 365, 1, 3] : List Int) (((Int.toNat (z2.2.2)) * 3) + 0) 0))) then (List.getD ([146097, 400, 100, 36524, 100, 3, 1461, 4, 24, 365, 1, 3] : List Int) (((Int.toNat (z2.2.2)) * 3) + 2) 0) else (IntKind.wrap .i64 (Int.tdiv (z2.1) (List.getD ([146097, 400, 100, 36524, 100, 3, 1461, 4, 24, 365, 1, 3] : List Int) (((Int.toNat (z2.2.2)) * 3) + 0) 0)))) * (List.getD ([146097, 400, 100, 36524, 100, 3, 1461, 4, 24, 365, 1, 3] : List Int) (((Int.toNat (z2.2.2)) * 3) + 1) 0))))))), (20, (V.agg [(V.int .i64 146097), (V.int .i64 400), (V.int .i64 100), (V.int .i64 36524), (V.int .i64 100), (V.int .i64 3), (V.int .i64 1461), (V.int .i64 4), (V.int .i64 24), (V.int .i64 365), (V.int .i64 1), (V.int .i64 3)])), (21, (V.int .i64 (IntKind.wrap .i64 ((z2.2.2) + 1)))), (22, (V.bool (decide ((z2.2.2) < 4)))), (23, (V.agg [(V.int .i64 (List.getD ([146097, 400, 100, 36524, 100, 3, 1461, 4, 24, 365, 1, 3] : List Int) (((Int.toNat (z2.2.2)) * 3) + 0) 0)), (V.int .i64 (List.getD ([146097, 400, 100, 36524, 100, 3, 1461, 4, 24, 365, 1, 3] : List Int) (((Int.toNat (z2.2.2)) * 3) + 1) 0)), (V.int .i64 (List.getD ([146097, 400, 100, 36524, 100, 3, 1461, 4, 24, 365, 1, 3] : List Int) (((Int.toNat (z2.2.2)) * 3) + 2) 0))])), (6, (V.ptr 1 0)), (24, (V.int .i64 (z2.1))), (25, (V.ptr 1 0)), (26, (V.int .i64 (List.getD ([146097, 400, 100, 36524, 100, 3, 1461, 4, 24, 365, 1, 3] : List Int) (((Int.toNat (z2.2.2)) * 3) + 0) 0))), (27, (V.int .i64 (IntKind.wrap .i64 (Int.tdiv (z2.1) (List.getD ([146097, 400, 100, 36524, 100, 3, 1461, 4, 24, 365, 1, 3] : List Int) (((Int.toNat (z2.2.2)) * 3) + 0) 0))))), (28, (V.ptr 1 2)), (29, (V.int .i64 (List.getD ([146097, 400, 100, 36524, 100, 3, 1461, 4, 24, 365, 1, 3] : List Int) (((Int.toNat (z2.2.2)) * 3) + 2) 0))), (30, (V.int .i64 (if (List.getD ([146097, 400, 100, 36524, 100, 3, 1461, 4, 24, 365, 1, 3] : List Int) (((Int.toNat (z2.2.2)) * 3) + 2) 0) < (IntKind.wrap .i64 (Int.tdiv (z2.1) (List.getD ([146097, 400, 100, 36524, 100, 3, 1461, 4, 24, 365, 1, 3] : List Int) (((Int.toNat (z2.2.2)) * 3) + 0) 0))) then (List.getD ([146097, 400, 100, 36524, 100, 3, 1461, 4, 24, 365, 1, 3] : List Int) (((Int.toNat (z2.2.2)) * 3) + 2) 0) else (IntKind.wrap .i64 (Int.tdiv (z2.1) (List.getD ([146097, 400, 100, 36524, 100, 3, 1461, 4, 24, 365, 1, 3] : List Int) (((Int.toNat (z2.2.2)) * 3) + 0) 0)))))), (7, (V.int .i64 (if (List.getD ([146097, 400, 100, 36524, 100, 3, 1461, 4, 24, 365, 1, 3] : List Int) (((Int.toNat (z2.2.2)) * 3) + 2) 0) < (IntKind.wrap .i64 (Int.tdiv (z2.1) (List.getD ([146097, 400, 100, 36524, 100, 3, 1461, 4, 24, 365, 1, 3] : List Int) (((Int.toNat (z2.2.2)) * 3) + 0) 0))) then (List.getD ([146097, 400, 100, 36524, 100, 3, 1461, 4, 24, 365, 1, 3] : List Int) (((Int.toNat (z2.2.2)) * 3) + 2) 0) else (IntKind.wrap .i64 (Int.tdiv (z2.1) (List.getD ([146097, 400, 100, 36524, 100, 3, 1461, 4, 24, 365, 1, 3] : List Int) (((Int.toNat (z2.2.2)) * 3) + 0) 0)))))), (31, (V.int .i64 (z2.2.1))), (32, (V.int .i64 (if (List.getD ([146097, 400, 100, 36524, 100, 3, 1461, 4, 24, 365, 1, 3] : List Int) (((Int.toNat (z2.2.2)) * 3) + 2) 0) < (IntKind.wrap .i64 (Int.tdiv (z2.1) (List.getD ([146097, 400, 100, 36524, 100, 3, 1461, 4, 24, 365, 1, 3] : List Int) (((Int.toNat (z2.2.2)) * 3) + 0) 0))) then (List.getD ([146097, 400, 100, 36524, 100, 3, 1461, 4, 24, 365, 1, 3] : List Int) (((Int.toNat (z2.2.2)) * 3) + 2) 0) else (IntKind.wrap .i64 (Int.tdiv (z2.1) (List.getD ([146097, 400, 100, 36524, 100, 3, 1461, 4, 24, 365, 1, 3] : List Int) (((Int.toNat (z2.2.2)) * 3) + 0) 0)))))), (33, (V.ptr 1 1)), (34, (V.int .i64 (List.getD ([146097, 400, 100, 36524, 100, 3, 1461, 4, 24, 365, 1, 3] : List Int) (((Int.toNat (z2.2.2)) * 3) + 1) 0))), (35, (V.int .i64 (IntKind.wrap .i64 ((if (List.getD ([146097, 400, 100, 36524, 100, 3, 1461, 4, 24, 365, 1, 3] : List Int) (((Int.toNat (z2.2.2)) * 3) + 2) 0) < (IntKind.wrap .i64 (Int.tdiv (z2.1) (List.getD ([146097, 400, 100, 36524, 100, 3, 1461, 4, 24, 365, 1, 3] : List Int) (((Int.toNat (z2.2.2)) * 3) + 0) 0))) then (List.getD ([146097, 400, 100, 36524, 100, 3, 1461, 4, 24, 365, 1, 3] : List Int) (((Int.toNat (z2.2.2)) * 3) + 2) 0) else (IntKind.wrap .i64 (Int.tdiv (z2.1) (List.getD ([146097, 400, 100, 36524, 100, 3, 1461, 4, 24, 365, 1, 3] : List Int) (((Int.toNat (z2.2.2)) * 3) + 0) 0)))) * (List.getD ([146097, 400, 100, 36524, 100, 3, 1461, 4, 24, 365, 1, 3] : List Int) (((Int.toNat (z2.2.2)) * 3) + 1) 0))))), (36, (V.int .i64 (IntKind.wrap .i64 ((z2.2.1) + (IntKind.wrap .i64 ((if (List.getD ([146097, 400, 100, 36524, 100, 3, 1461, 4, 24, 365, 1, 3] : List Int) (((Int.toNat (z2.2.2)) * 3) + 2) 0) < (IntKind.wrap .i64 (Int.tdiv (z2.1) (List.getD ([146097, 400, 100, 36524, 100, 3, 1461, 4, 24, 365, 1, 3] : List Int) (((Int.toNat (z2.2.2)) * 3) + 0) 0))) then (List.getD ([146097, 400, 100, 36524, 100, 3, 1461, 4, 24, 365, 1, 3] : List Int) (((Int.toNat (z2.2.2)) * 3) + 2) 0) else (IntKind.wrap .i64 (Int.tdiv (z2.1) (List.getD ([146097, 400, 100, 36524, 100, 3, 1461, 4, 24, 365, 1, 3] : List Int) (((Int.toNat (z2.2.2)) * 3) + 0) 0)))) * (List.getD ([146097, 400, 100, 36524, 100, 3, 1461, 4, 24, 365, 1, 3] : List Int) (((Int.toNat (z2.2.2)) * 3) + 1) 0))))))), (37, (V.int .i64 (z2.1))), (38, (V.int .i64 (if (List.getD ([146097, 400, 100, 36524, 100, 3, 1461, 4, 24, 365, 1, 3] : List Int) (((Int.toNat (z2.2.2)) * 3) + 2) 0) < (IntKind.wrap .i64 (Int.tdiv (z2.1) (List.getD ([146097, 400, 100, 36524, 100, 3, 1461, 4, 24, 365, 1, 3] : List Int) (((Int.toNat (z2.2.2)) * 3) + 0) 0))) then (List.getD ([146097, 400, 100, 36524, 100, 3, 1461, 4, 24, 365, 1, 3] : List Int) (((Int.toNat (z2.2.2)) * 3) + 2) 0) else (IntKind.wrap .i64 (Int.tdiv (z2.1) (List.getD ([146097, 400, 100, 36524, 100, 3, 1461, 4, 24, 365, 1, 3] : List Int) (((Int.toNat (z2.2.2)) * 3) + 0) 0)))))), (39, (V.ptr 1 0)), (40, (V.int .i64 (List.getD ([146097, 400, 100, 36524, 100, 3, 1461, 4, 24, 365, 1, 3] : List Int) (((Int.toNat (z2.2.2)) * 3) + 0) 0))), (41, (V.int .i64 (IntKind.wrap .i64 ((if (List.getD ([146097, 400, 100, 36524, 100, 3, 1461, 4, 24, 365, 1, 3] : List Int) (((Int.toNat (z2.2.2)) * 3) + 2) 0) < (IntKind.wrap .i64 (Int.tdiv (z2.1) (List.getD ([146097, 400, 100, 36524, 100, 3, 1461, 4, 24, 365, 1, 3] : List Int) (((Int.toNat (z2.2.2)) * 3) + 0) 0))) then (List.getD ([146097, 400, 100, 36524, 100, 3, 1461, 4, 24, 365, 1, 3] : List Int) (((Int.toNat (z2.2.2)) * 3) + 2) 0) else (IntKind.wrap .i64 (Int.tdiv (z2.1) (List.getD ([146097, 400, 100, 36524, 100, 3, 1461, 4, 24, 365, 1, 3] : List Int) (((Int.toNat (z2.2.2)) * 3) + 0) 0)))) * (List.getD ([146097, 400, 100, 36524, 100, 3, 1461, 4, 24, 365, 1, 3] : List Int) (((Int.toNat (z2.2.2)) * 3) + 0) 0))))), (42, (V.int .i64 (IntKind.wrap .i64 ((z2.1) - (IntKind.wrap .i64 ((if (List.getD ([146097, 400, 100, 36524, 100, 3, 1461, 4, 24, 365, 1, 3] : List Int) (((Int.toNat (z2.2.2)) * 3) + 2) 0) < (IntKind.wrap .i64 (Int.tdiv (z2.1) (List.getD ([146097, 400, 100, 36524, 100, 3, 1461, 4, 24, 365, 1, 3] : List Int) (((Int.toNat (z2.2.2)) * 3) + 0) 0))) then (List.getD ([146097, 400, 100, 36524, 100, 3, 1461, 4, 24, 365, 1, 3] : List Int) (((Int.toNat (z2.2.2)) * 3) + 2) 0) else (IntKind.wrap .i64 (Int.tdiv (z2.1) (List.getD ([146097, 400, 100, 36524, 100, 3, 1461, 4, 24, 365, 1, 3] : List Int) (((Int.toNat (z2.2.2)) * 3) + 0) 0)))) * (List.getD ([146097, 400, 100, 36524, 100, 3, 1461, 4, 24, 365, 1, 3] : List Int) (((Int.toNat (z2.2.2)) * 3) + 0) 0))))))), (43, (V.int .i64 (IntKind.wrap .i64 ((z2.2.2) + 1))))], [(Blk.cells [(V.int .i64 0), (V.int .i64 0), (V.int .i64 0)]), (Blk.cells [(V.int .i64 (List.getD ([146097, 400, 100, 36524, 100, 3, 1461, 4, 24, 365, 1, 3] : List Int) (((Int.toNat (z2.2.2)) * 3) + 0) 0)), (V.int .i64 (List.getD ([146097, 400, 100, 36524, 100, 3, 1461, 4, 24, 365, 1, 3] : List Int) (((Int.toNat (z2.2.2)) * 3) + 1) 0)), (V.int .i64 (List.getD ([146097, 400, 100, 36524, 100, 3, 1461, 4, 24, 365, 1, 3] : List Int) (((Int.toNat (z2.2.2)) * 3) + 2) 0))])], []⟩)))))))))))))))))))))))))))) (wkK 1 K (.exit 0) ⟨[(0, (V.int .i64 (z2.1))), (2, (V.ptr 0 0)), (3, (V.int .i64 0)), (4, (V.int .i64 (z2.2.1))), (20, (V.agg [(V.int .i64 146097), (V.int .i64 400), (V.int .i64 100), (V.int .i64 36524), (V.int .i64 100), (V.int .i64 3), (V.int .i64 1461), (V.int .i64 4), (V.int .i64 24), (V.int .i64 365), (V.int .i64 1), (V.int .i64 3)])), (21, (V.int .i64 (z2.2.2))), (22, (V.bool (decide ((z2.2.2) < 4))))], [(Blk.cells [(V.int .i64 0), (V.int .i64 0), (V.int .i64 0)])], []⟩))) := by kernel_rfl
theorem days_At_l0_ok (n : Nat) : Owed days_At_cx 84 days_At_lp (n + 0) days_At_l0_lp := loop_owed (fun z y h => h) fun k z2 z2q z2c y3_ K h hK next hnext => by
  refine cast (days_At_l0_round n z2 z2q z2c K next).symm ?_
  simp only [days_At_l0] at h
  refine req_intro rfl ?_
  refine br_both h (fun hb h => ?_) (fun hb h => ?_)
  · obtain ⟨q, h⟩ := req_of h
    refine req_intro (band (band (band_l (band_l q)) (band_r (band_l q))) (band_r q)) ?_
    iterate 4 refine req_intro rfl ?_
    obtain ⟨q, h⟩ := req_of h
    refine req_intro q ?_
    iterate 21 refine req_intro rfl ?_
    exact hnext ((IntKind.wrap .i64 ((z2.1) - (IntKind.wrap .i64 ((if (List.getD ([146097, 400, 100, 36524, 100, 3, 1461, 4, 24, 365, 1, 3] : List Int) (((Int.toNat (z2.2.2)) * 3) + 2) 0) < (IntKind.wrap .i64 (Int.tdiv (z2.1) (List.getD ([146097, 400, 100, 36524, 100, 3, 1461, 4, 24, 365, 1, 3] : List Int) (((Int.toNat (z2.2.2)) * 3) + 0) 0))) then (List.getD ([146097, 400, 100, 36524, 100, 3, 1461, 4, 24, 365, 1, 3] : List Int) (((Int.toNat (z2.2.2)) * 3) + 2) 0) else (IntKind.wrap .i64 (Int.tdiv (z2.1) (List.getD ([146097, 400, 100, 36524, 100, 3, 1461, 4, 24, 365, 1, 3] : List Int) (((Int.toNat (z2.2.2)) * 3) + 0) 0)))) * (List.getD ([146097, 400, 100, 36524, 100, 3, 1461, 4, 24, 365, 1, 3] : List Int) (((Int.toNat (z2.2.2)) * 3) + 0) 0))))), (IntKind.wrap .i64 ((z2.2.1) + (IntKind.wrap .i64 ((if (List.getD ([146097, 400, 100, 36524, 100, 3, 1461, 4, 24, 365, 1, 3] : List Int) (((Int.toNat (z2.2.2)) * 3) + 2) 0) < (IntKind.wrap .i64 (Int.tdiv (z2.1) (List.getD ([146097, 400, 100, 36524, 100, 3, 1461, 4, 24, 365, 1, 3] : List Int) (((Int.toNat (z2.2.2)) * 3) + 0) 0))) then (List.getD ([146097, 400, 100, 36524, 100, 3, 1461, 4, 24, 365, 1, 3] : List Int) (((Int.toNat (z2.2.2)) * 3) + 2) 0) else (IntKind.wrap .i64 (Int.tdiv (z2.1) (List.getD ([146097, 400, 100, 36524, 100, 3, 1461, 4, 24, 365, 1, 3] : List Int) (((Int.toNat (z2.2.2)) * 3) + 0) 0)))) * (List.getD ([146097, 400, 100, 36524, 100, 3, 1461, 4, 24, 365, 1, 3] : List Int) (((Int.toNat (z2.2.2)) * 3) + 1) 0))))), (IntKind.wrap .i64 ((z2.2.2) + 1))) _ h hK ⟨(), wk_of (Or.inr ⟨⟨Or.inl rfl, Or.inl rfl, Or.inl rfl, Or.inl rfl, Or.inl rfl, Or.inl rfl, trivial⟩, ⟨Or.inl rfl, trivial⟩, rfl, rfl, rfl⟩)⟩
  · subst h
    refine ⟨_, ?_, hK⟩
    exact wk_of (Or.inr ⟨⟨Or.inl rfl, Or.inl rfl, Or.inl rfl, Or.inl rfl, trivial⟩, ⟨Or.inl rfl, trivial⟩, rfl, rfl, rfl⟩)
theorem days_At_l1_round (n : Nat) (z6 : days_At_l1_Z) (z6q : days_At_l1_Q) (z6c : days_At_l1_C) (K : Ret → S → Prop) (next : S → Prop) : acode days_At_cx 84 (acall days_At_cx okT days_At_lp (n + 1)) kept (days_At_lp (n + 1) 84) none days_At_l1_body (iterK (wkK 1 K) next) (days_At_l1_st z6 z6q z6c) =
    (req true (req true (req true (∃ y8 : Int, (days_months_R (IntKind.wrap .i64 ((z6.2.2) + 1)) y8) ∧ (req true (req true (br (decide (y8 > (z6.1))) (wkK 1 K (.exit 2) ⟨[(0, (V.int .i64 (z6.1))), (2, (V.ptr 0 0)), (3, (V.int .i64 0)), (4, (V.int .i64 (z6.2.1))), (8, (V.int .i64 (z6.2.2))), (44, (V.int .i64 (z6.2.2))), (45, (V.int .i64 (IntKind.wrap .i64 ((z6.2.2) + 1)))), (46, (V.int .i64 y8)), (47, (V.int .i64 (z6.1))), (48, (V.bool (decide (y8 > (z6.1)))))], [(Blk.cells [(V.int .i64 0), (V.int .i64 0), (V.int .i64 0)])], []⟩) (req true (req true (req true (next ⟨[(0, (V.int .i64 (z6.1))), (2, (V.ptr 0 0)), (3, (V.int .i64 0)), (4, (V.int .i64 (z6.2.1))), (8, (V.int .i64 (IntKind.wrap .i64 ((z6.2.2) + 1)))), (44, (V.int .i64 (z6.2.2))), (45, (V.int .i64 (IntKind.wrap .i64 ((z6.2.2) + 1)))), (46, (V.int .i64 y8)), (47, (V.int .i64 (z6.1))), (48, (V.bool (decide (y8 > (z6.1))))), (49, (V.int .i64 (z6.2.2))), (50, (V.int .i64 (IntKind.wrap .i64 ((z6.2.2) + 1))))], [(Blk.cells [(V.int .i64 0), (V.int .i64 0), (V.int .i64 0)])], []⟩))))))))))) := by kernel_rfl
theorem days_At_l1_ok (n : Nat) : Owed days_At_cx 84 days_At_lp (n + 1) days_At_l1_lp := loop_owed (fun z y h => h) fun k z6 z6q z6c y7_ K h hK next hnext => by
  refine cast (days_At_l1_round n z6 z6q z6c K next).symm ?_
  simp only [days_At_l1] at h
  iterate 3 refine req_intro rfl ?_
  obtain ⟨y8, ry8, h⟩ := h
  refine ⟨y8, ry8, ?_⟩
  iterate 2 refine req_intro rfl ?_
  refine br_both h (fun hb h => ?_) (fun hb h => ?_)
  · subst h
    refine ⟨_, ?_, hK⟩
    exact wk_of (Or.inr ⟨⟨Or.inl rfl, Or.inl rfl, Or.inl rfl, Or.inl rfl, Or.inl rfl, trivial⟩, ⟨Or.inl rfl, trivial⟩, rfl, rfl, rfl⟩)
  · iterate 3 refine req_intro rfl ?_
    exact hnext ((z6.1), (z6.2.1), (IntKind.wrap .i64 ((z6.2.2) + 1))) _ h hK ⟨(), wk_of (Or.inr ⟨⟨Or.inl rfl, Or.inl rfl, Or.inl rfl, Or.inl rfl, Or.inl rfl, trivial⟩, ⟨Or.inl rfl, trivial⟩, rfl, rfl, rfl⟩)⟩
theorem days_At_lpok : LpOk days_At_cx okT days_At_lp := LpOk_tab ⟨days_At_l0_ok, days_At_l1_ok, trivial⟩
def days_At_R (a0 : Int) (y : (Int × Int × Int) × Int) : Prop :=
  (∃ y1 : Bool, (days_day_R a0 y1) ∧ (br (!y1) (((0, (0, 0)), 2) = y) (∃ y5 : days_At_l0_Y, days_At_l0_L ((IntKind.wrap .i64 (a0 + 719468)), 0, 0) y5 ∧ (∃ y10 : days_At_l1_Y, days_At_l1_L ((y5.1), (y5.2), 0) y10 ∧ (∃ y11 : Int, (days_months_R y10 y11) ∧ (br (decide ((IntKind.wrap .i64 (y10 + 3)) > 12)) ((((IntKind.wrap .i64 ((y5.2) + 1)), ((IntKind.wrap .i64 ((IntKind.wrap .i64 (y10 + 3)) - 12)), (IntKind.wrap .i64 ((IntKind.wrap .i64 ((y5.1) - y11)) + 1)))), 0) = y) ((((y5.2), ((IntKind.wrap .i64 (y10 + 3)), (IntKind.wrap .i64 ((IntKind.wrap .i64 ((y5.1) - y11)) + 1)))), 0) = y)))))))
theorem days_At_tree (a0 : Int) (y : (Int × Int × Int) × Int) : acall days_At_cx okT days_At_lp 60 (.fn 84 [] []) [(V.int .i64 a0)] [] (leafK (.tup (.cons (.agg (.cons (.int .i64) (.cons (.int .i64) (.one (.int .i64))))) (.one (.int .i64)))) y) =
    (req true (req true (req true (∃ y1 : Bool, (days_day_R a0 y1) ∧ (req true (br (!y1) (req true (req true (req true (((0, (0, 0)), 2) = y)))) (req true (req true (req true (req true (req true (req true (req true (req true (req true (req true (((none : Option Nat) = (none : Option Nat)) ∧ (days_At_l0_body = days_At_l0_body) ∧ ∃ z4 : days_At_l0_Z, ∃ z4q : days_At_l0_Q, ∃ y5 : days_At_l0_Y, (1 = 1) ∧ (∃ zc : days_At_l0_C, wk 1 ⟨[(0, (V.int .i64 (IntKind.wrap .i64 (a0 + 719468)))), (2, (V.ptr 0 0)), (3, (V.int .i64 0)), (10, (V.int .i64 a0)), (11, (V.bool y1)), (12, (V.bool (!y1))), (14, (V.int .i64 a0)), (15, (V.int .i64 (IntKind.wrap .i64 (a0 + 719468)))), (4, (V.int .i64 0)), (16, (V.agg [(V.int .i64 146097), (V.int .i64 400), (V.int .i64 100)])), (17, (V.agg [(V.int .i64 36524), (V.int .i64 100), (V.int .i64 3)])), (18, (V.agg [(V.int .i64 1461), (V.int .i64 4), (V.int .i64 24)])), (19, (V.agg [(V.int .i64 365), (V.int .i64 1), (V.int .i64 3)])), (20, (V.agg [(V.int .i64 146097), (V.int .i64 400), (V.int .i64 100), (V.int .i64 36524), (V.int .i64 100), (V.int .i64 3), (V.int .i64 1461), (V.int .i64 4), (V.int .i64 24), (V.int .i64 365), (V.int .i64 1), (V.int .i64 3)])), (21, (V.int .i64 0))], [(Blk.cells [(V.int .i64 0), (V.int .i64 0), (V.int .i64 0)])], []⟩ (days_At_l0_st z4 z4q zc)) ∧ (∃ k, days_At_l0 k z4 y5) ∧ (req true (((none : Option Nat) = (none : Option Nat)) ∧ (days_At_l1_body = days_At_l1_body) ∧ ∃ z9 : days_At_l1_Z, ∃ z9q : days_At_l1_Q, ∃ y10 : days_At_l1_Y, (1 = 1) ∧ (∃ zc : days_At_l1_C, wk 1 ⟨[(0, (V.int .i64 (y5.1))), (2, (V.ptr 0 0)), (3, (V.int .i64 0)), (4, (V.int .i64 (y5.2))), (8, (V.int .i64 0))], [(Blk.cells [(V.int .i64 0), (V.int .i64 0), (V.int .i64 0)])], []⟩ (days_At_l1_st z9 z9q zc)) ∧ (∃ k, days_At_l1 k z9 y10) ∧ (req true (req true (req true (req true (req true (req true (∃ y11 : Int, (days_months_R y10 y11) ∧ (req true (req true (req true (req true (req true (req true (br (decide ((IntKind.wrap .i64 (y10 + 3)) > 12)) (req true (req true (req true (req true (req true (req true (req true (req true (req true (req true ((((IntKind.wrap .i64 ((z9.2.1) + 1)), ((IntKind.wrap .i64 ((IntKind.wrap .i64 (y10 + 3)) - 12)), (IntKind.wrap .i64 ((IntKind.wrap .i64 ((z9.1) - y11)) + 1)))), 0) = y))))))))))) (req true (req true (req true ((((z9.2.1), ((IntKind.wrap .i64 (y10 + 3)), (IntKind.wrap .i64 ((IntKind.wrap .i64 ((z9.1) - y11)) + 1)))), 0) = y))))))))))))))))))))))))))))))))))))) := by kernel_rfl
theorem days_At_run (a0 : Int) (y : (Int × Int × Int) × Int) (h : days_At_R a0 y) : acall days_At_cx okT days_At_lp 60 (.fn 84 [] []) [(V.int .i64 a0)] [] (leafK (.tup (.cons (.agg (.cons (.int .i64) (.cons (.int .i64) (.one (.int .i64))))) (.one (.int .i64)))) y) := by
  refine cast (days_At_tree a0 y).symm ?_
  unfold days_At_R at h
  iterate 3 refine req_intro rfl ?_
  obtain ⟨y1, ry1, h⟩ := h
  refine ⟨y1, ry1, ?_⟩
  refine req_intro rfl ?_
  refine br_both h (fun hb h => ?_) (fun hb h => ?_)
  · iterate 2 refine req_intro rfl ?_
    exact req_intro rfl h
  · iterate 10 refine req_intro rfl ?_
    obtain ⟨y5, ry5, h⟩ := h
    refine ⟨rfl, rfl, ((IntKind.wrap .i64 (a0 + 719468)), 0, 0), (), y5, rfl, ⟨(), wk_of (Or.inr ⟨⟨Or.inl rfl, Or.inl rfl, Or.inl rfl, Or.inl rfl, Or.inl rfl, Or.inl rfl, trivial⟩, ⟨Or.inl rfl, trivial⟩, rfl, rfl, rfl⟩)⟩, ry5, ?_⟩
    refine req_intro rfl ?_
    obtain ⟨y10, ry10, h⟩ := h
    refine ⟨rfl, rfl, ((y5.1), (y5.2), 0), (), y10, rfl, ⟨(), wk_of (Or.inr ⟨⟨Or.inl rfl, Or.inl rfl, Or.inl rfl, Or.inl rfl, Or.inl rfl, trivial⟩, ⟨Or.inl rfl, trivial⟩, rfl, rfl, rfl⟩)⟩, ry10, ?_⟩
    iterate 6 refine req_intro rfl ?_
    obtain ⟨y11, ry11, h⟩ := h
    refine ⟨y11, ry11, ?_⟩
    iterate 6 refine req_intro rfl ?_
    refine br_both h (fun hb h => ?_) (fun hb h => ?_)
    · iterate 9 refine req_intro rfl ?_
      exact req_intro rfl h
    · iterate 2 refine req_intro rfl ?_
      exact req_intro rfl h
theorem days_At_ok : FxOk Tryd.prog gsT 84 (.one (.int .i64)) (.tup (.cons (.agg (.cons (.int .i64) (.cons (.int .i64) (.one (.int .i64))))) (.one (.int .i64)))) fun x y => days_At_R x y := fx_of (c := days_At_cx) (ty_ok rfl) (eq_ok rfl) days_At_fns follows_ok (ok := okT) (lp := days_At_lp) (n := 60) days_At_lpok (enters Tryd.func84 (by kernel_rfl) rfl) (fun y => ⟨_, rfl⟩) fun x y h => days_At_run _ y h
noncomputable def math_bits_OnesCount64_cx : Cx := ⟨tyT, [(136, .body Tryd.f136)], gsT, eqT⟩
theorem math_bits_OnesCount64_fns : FnsOk Tryd.prog math_bits_OnesCount64_cx := Fns_assoc ⟨body_ent Tryd.func136 (by kernel_rfl) (by kernel_rfl), trivial⟩
def math_bits_OnesCount64_R (a0 : Int) (y : Int) : Prop :=
  ((IntKind.wrap .i64 (BitVec.toNat (BitVec.ofInt (IntKind.bits .i64) (IntKind.wrap .i64 (IntKind.wrap .u64 ((IntKind.wrap .u64 ((IntKind.wrap .u64 ((IntKind.wrap .u64 (BitVec.toNat (BitVec.ofInt (IntKind.bits .u64) (IntKind.wrap .u64 ((Int.fdiv (IntKind.wrap .u64 ((IntKind.wrap .u64 (BitVec.toNat (BitVec.ofInt (IntKind.bits .u64) (Int.fdiv (IntKind.wrap .u64 ((IntKind.wrap .u64 (BitVec.toNat (BitVec.ofInt (IntKind.bits .u64) (Int.fdiv a0 (2 ^ 1)) &&& BitVec.ofInt (IntKind.bits .u64) 6148914691236517205))) + (IntKind.wrap .u64 (BitVec.toNat (BitVec.ofInt (IntKind.bits .u64) a0 &&& BitVec.ofInt (IntKind.bits .u64) 6148914691236517205))))) (2 ^ 2)) &&& BitVec.ofInt (IntKind.bits .u64) 3689348814741910323))) + (IntKind.wrap .u64 (BitVec.toNat (BitVec.ofInt (IntKind.bits .u64) (IntKind.wrap .u64 ((IntKind.wrap .u64 (BitVec.toNat (BitVec.ofInt (IntKind.bits .u64) (Int.fdiv a0 (2 ^ 1)) &&& BitVec.ofInt (IntKind.bits .u64) 6148914691236517205))) + (IntKind.wrap .u64 (BitVec.toNat (BitVec.ofInt (IntKind.bits .u64) a0 &&& BitVec.ofInt (IntKind.bits .u64) 6148914691236517205))))) &&& BitVec.ofInt (IntKind.bits .u64) 3689348814741910323))))) (2 ^ 4)) + (IntKind.wrap .u64 ((IntKind.wrap .u64 (BitVec.toNat (BitVec.ofInt (IntKind.bits .u64) (Int.fdiv (IntKind.wrap .u64 ((IntKind.wrap .u64 (BitVec.toNat (BitVec.ofInt (IntKind.bits .u64) (Int.fdiv a0 (2 ^ 1)) &&& BitVec.ofInt (IntKind.bits .u64) 6148914691236517205))) + (IntKind.wrap .u64 (BitVec.toNat (BitVec.ofInt (IntKind.bits .u64) a0 &&& BitVec.ofInt (IntKind.bits .u64) 6148914691236517205))))) (2 ^ 2)) &&& BitVec.ofInt (IntKind.bits .u64) 3689348814741910323))) + (IntKind.wrap .u64 (BitVec.toNat (BitVec.ofInt (IntKind.bits .u64) (IntKind.wrap .u64 ((IntKind.wrap .u64 (BitVec.toNat (BitVec.ofInt (IntKind.bits .u64) (Int.fdiv a0 (2 ^ 1)) &&& BitVec.ofInt (IntKind.bits .u64) 6148914691236517205))) + (IntKind.wrap .u64 (BitVec.toNat (BitVec.ofInt (IntKind.bits .u64) a0 &&& BitVec.ofInt (IntKind.bits .u64) 6148914691236517205))))) &&& BitVec.ofInt (IntKind.bits .u64) 3689348814741910323))))))) &&& BitVec.ofInt (IntKind.bits .u64) 1085102592571150095))) + (Int.fdiv (IntKind.wrap .u64 (BitVec.toNat (BitVec.ofInt (IntKind.bits .u64) (IntKind.wrap .u64 ((Int.fdiv (IntKind.wrap .u64 ((IntKind.wrap .u64 (BitVec.toNat (BitVec.ofInt (IntKind.bits .u64) (Int.fdiv (IntKind.wrap .u64 ((IntKind.wrap .u64 (BitVec.toNat (BitVec.ofInt (IntKind.bits .u64) (Int.fdiv a0 (2 ^ 1)) &&& BitVec.ofInt (IntKind.bits .u64) 6148914691236517205))) + (IntKind.wrap .u64 (BitVec.toNat (BitVec.ofInt (IntKind.bits .u64) a0 &&& BitVec.ofInt (IntKind.bits .u64) 6148914691236517205))))) (2 ^ 2)) &&& BitVec.ofInt (IntKind.bits .u64) 3689348814741910323))) + (IntKind.wrap .u64 (BitVec.toNat (BitVec.ofInt (IntKind.bits .u64) (IntKind.wrap .u64 ((IntKind.wrap .u64 (BitVec.toNat (BitVec.ofInt (IntKind.bits .u64) (Int.fdiv a0 (2 ^ 1)) &&& BitVec.ofInt (IntKind.bits .u64) 6148914691236517205))) + (IntKind.wrap .u64 (BitVec.toNat (BitVec.ofInt (IntKind.bits .u64) a0 &&& BitVec.ofInt (IntKind.bits .u64) 6148914691236517205))))) &&& BitVec.ofInt (IntKind.bits .u64) 3689348814741910323))))) (2 ^ 4)) + (IntKind.wrap .u64 ((IntKind.wrap .u64 (BitVec.toNat (BitVec.ofInt (IntKind.bits .u64) (Int.fdiv (IntKind.wrap .u64 ((IntKind.wrap .u64 (BitVec.toNat (BitVec.ofInt (IntKind.bits .u64) (Int.fdiv a0 (2 ^ 1)) &&& BitVec.ofInt (IntKind.bits .u64) 6148914691236517205))) + (IntKind.wrap .u64 (BitVec.toNat (BitVec.ofInt (IntKind.bits .u64) a0 &&& BitVec.ofInt (IntKind.bits .u64) 6148914691236517205))))) (2 ^ 2)) &&& BitVec.ofInt (IntKind.bits .u64) 3689348814741910323))) + (IntKind.wrap .u64 (BitVec.toNat (BitVec.ofInt (IntKind.bits .u64) (IntKind.wrap .u64 ((IntKind.wrap .u64 (BitVec.toNat (BitVec.ofInt (IntKind.bits .u64) (Int.fdiv a0 (2 ^ 1)) &&& BitVec.ofInt (IntKind.bits .u64) 6148914691236517205))) + (IntKind.wrap .u64 (BitVec.toNat (BitVec.ofInt (IntKind.bits .u64) a0 &&& BitVec.ofInt (IntKind.bits .u64) 6148914691236517205))))) &&& BitVec.ofInt (IntKind.bits .u64) 3689348814741910323))))))) &&& BitVec.ofInt (IntKind.bits .u64) 1085102592571150095))) (2 ^ 8)))) + (Int.fdiv (IntKind.wrap .u64 ((IntKind.wrap .u64 (BitVec.toNat (BitVec.ofInt (IntKind.bits .u64) (IntKind.wrap .u64 ((Int.fdiv (IntKind.wrap .u64 ((IntKind.wrap .u64 (BitVec.toNat (BitVec.ofInt (IntKind.bits .u64) (Int.fdiv (IntKind.wrap .u64 ((IntKind.wrap .u64 (BitVec.toNat (BitVec.ofInt (IntKind.bits .u64) (Int.fdiv a0 (2 ^ 1)) &&& BitVec.ofInt (IntKind.bits .u64) 6148914691236517205))) + (IntKind.wrap .u64 (BitVec.toNat (BitVec.ofInt (IntKind.bits .u64) a0 &&& BitVec.ofInt (IntKind.bits .u64) 6148914691236517205))))) (2 ^ 2)) &&& BitVec.ofInt (IntKind.bits .u64) 3689348814741910323))) + (IntKind.wrap .u64 (BitVec.toNat (BitVec.ofInt (IntKind.bits .u64) (IntKind.wrap .u64 ((IntKind.wrap .u64 (BitVec.toNat (BitVec.ofInt (IntKind.bits .u64) (Int.fdiv a0 (2 ^ 1)) &&& BitVec.ofInt (IntKind.bits .u64) 6148914691236517205))) + (IntKind.wrap .u64 (BitVec.toNat (BitVec.ofInt (IntKind.bits .u64) a0 &&& BitVec.ofInt (IntKind.bits .u64) 6148914691236517205))))) &&& BitVec.ofInt (IntKind.bits .u64) 3689348814741910323))))) (2 ^ 4)) + (IntKind.wrap .u64 ((IntKind.wrap .u64 (BitVec.toNat (BitVec.ofInt (IntKind.bits .u64) (Int.fdiv (IntKind.wrap .u64 ((IntKind.wrap .u64 (BitVec.toNat (BitVec.ofInt (IntKind.bits .u64) (Int.fdiv a0 (2 ^ 1)) &&& BitVec.ofInt (IntKind.bits .u64) 6148914691236517205))) + (IntKind.wrap .u64 (BitVec.toNat (BitVec.ofInt (IntKind.bits .u64) a0 &&& BitVec.ofInt (IntKind.bits .u64) 6148914691236517205))))) (2 ^ 2)) &&& BitVec.ofInt (IntKind.bits .u64) 3689348814741910323))) + (IntKind.wrap .u64 (BitVec.toNat (BitVec.ofInt (IntKind.bits .u64) (IntKind.wrap .u64 ((IntKind.wrap .u64 (BitVec.toNat (BitVec.ofInt (IntKind.bits .u64) (Int.fdiv a0 (2 ^ 1)) &&& BitVec.ofInt (IntKind.bits .u64) 6148914691236517205))) + (IntKind.wrap .u64 (BitVec.toNat (BitVec.ofInt (IntKind.bits .u64) a0 &&& BitVec.ofInt (IntKind.bits .u64) 6148914691236517205))))) &&& BitVec.ofInt (IntKind.bits .u64) 3689348814741910323))))))) &&& BitVec.ofInt (IntKind.bits .u64) 1085102592571150095))) + (Int.fdiv (IntKind.wrap .u64 (BitVec.toNat (BitVec.ofInt (IntKind.bits .u64) (IntKind.wrap .u64 ((Int.fdiv (IntKind.wrap .u64 ((IntKind.wrap .u64 (BitVec.toNat (BitVec.ofInt (IntKind.bits .u64) (Int.fdiv (IntKind.wrap .u64 ((IntKind.wrap .u64 (BitVec.toNat (BitVec.ofInt (IntKind.bits .u64) (Int.fdiv a0 (2 ^ 1)) &&& BitVec.ofInt (IntKind.bits .u64) 6148914691236517205))) + (IntKind.wrap .u64 (BitVec.toNat (BitVec.ofInt (IntKind.bits .u64) a0 &&& BitVec.ofInt (IntKind.bits .u64) 6148914691236517205))))) (2 ^ 2)) &&& BitVec.ofInt (IntKind.bits .u64) 3689348814741910323))) + (IntKind.wrap .u64 (BitVec.toNat (BitVec.ofInt (IntKind.bits .u64) (IntKind.wrap .u64 ((IntKind.wrap .u64 (BitVec.toNat (BitVec.ofInt (IntKind.bits .u64) (Int.fdiv a0 (2 ^ 1)) &&& BitVec.ofInt (IntKind.bits .u64) 6148914691236517205))) + (IntKind.wrap .u64 (BitVec.toNat (BitVec.ofInt (IntKind.bits .u64) a0 &&& BitVec.ofInt (IntKind.bits .u64) 6148914691236517205))))) &&& BitVec.ofInt (IntKind.bits .u64) 3689348814741910323))))) (2 ^ 4)) + (IntKind.wrap .u64 ((IntKind.wrap .u64 (BitVec.toNat (BitVec.ofInt (IntKind.bits .u64) (Int.fdiv (IntKind.wrap .u64 ((IntKind.wrap .u64 (BitVec.toNat (BitVec.ofInt (IntKind.bits .u64) (Int.fdiv a0 (2 ^ 1)) &&& BitVec.ofInt (IntKind.bits .u64) 6148914691236517205))) + (IntKind.wrap .u64 (BitVec.toNat (BitVec.ofInt (IntKind.bits .u64) a0 &&& BitVec.ofInt (IntKind.bits .u64) 6148914691236517205))))) (2 ^ 2)) &&& BitVec.ofInt (IntKind.bits .u64) 3689348814741910323))) + (IntKind.wrap .u64 (BitVec.toNat (BitVec.ofInt (IntKind.bits .u64) (IntKind.wrap .u64 ((IntKind.wrap .u64 (BitVec.toNat (BitVec.ofInt (IntKind.bits .u64) (Int.fdiv a0 (2 ^ 1)) &&& BitVec.ofInt (IntKind.bits .u64) 6148914691236517205))) + (IntKind.wrap .u64 (BitVec.toNat (BitVec.ofInt (IntKind.bits .u64) a0 &&& BitVec.ofInt (IntKind.bits .u64) 6148914691236517205))))) &&& BitVec.ofInt (IntKind.bits .u64) 3689348814741910323))))))) &&& BitVec.ofInt (IntKind.bits .u64) 1085102592571150095))) (2 ^ 8)))) (2 ^ 16)))) + (Int.fdiv (IntKind.wrap .u64 ((IntKind.wrap .u64 ((IntKind.wrap .u64 (BitVec.toNat (BitVec.ofInt (IntKind.bits .u64) (IntKind.wrap .u64 ((Int.fdiv (IntKind.wrap .u64 ((IntKind.wrap .u64 (BitVec.toNat (BitVec.ofInt (IntKind.bits .u64) (Int.fdiv (IntKind.wrap .u64 ((IntKind.wrap .u64 (BitVec.toNat (BitVec.ofInt (IntKind.bits .u64) (Int.fdiv a0 (2 ^ 1)) &&& BitVec.ofInt (IntKind.bits .u64) 6148914691236517205))) + (IntKind.wrap .u64 (BitVec.toNat (BitVec.ofInt (IntKind.bits .u64) a0 &&& BitVec.ofInt (IntKind.bits .u64) 6148914691236517205))))) (2 ^ 2)) &&& BitVec.ofInt (IntKind.bits .u64) 3689348814741910323))) + (IntKind.wrap .u64 (BitVec.toNat (BitVec.ofInt (IntKind.bits .u64) (IntKind.wrap .u64 ((IntKind.wrap .u64 (BitVec.toNat (BitVec.ofInt (IntKind.bits .u64) (Int.fdiv a0 (2 ^ 1)) &&& BitVec.ofInt (IntKind.bits .u64) 6148914691236517205))) + (IntKind.wrap .u64 (BitVec.toNat (BitVec.ofInt (IntKind.bits .u64) a0 &&& BitVec.ofInt (IntKind.bits .u64) 6148914691236517205))))) &&& BitVec.ofInt (IntKind.bits .u64) 3689348814741910323))))) (2 ^ 4)) + (IntKind.wrap .u64 ((IntKind.wrap .u64 (BitVec.toNat (BitVec.ofInt (IntKind.bits .u64) (Int.fdiv (IntKind.wrap .u64 ((IntKind.wrap .u64 (BitVec.toNat (BitVec.ofInt (IntKind.bits .u64) (Int.fdiv a0 (2 ^ 1)) &&& BitVec.ofInt (IntKind.bits .u64) 6148914691236517205))) + (IntKind.wrap .u64 (BitVec.toNat (BitVec.ofInt (IntKind.bits .u64) a0 &&& BitVec.ofInt (IntKind.bits .u64) 6148914691236517205))))) (2 ^ 2)) &&& BitVec.ofInt (IntKind.bits .u64) 3689348814741910323))) + (IntKind.wrap .u64 (BitVec.toNat (BitVec.ofInt (IntKind.bits .u64) (IntKind.wrap .u64 ((IntKind.wrap .u64 (BitVec.toNat (BitVec.ofInt (IntKind.bits .u64) (Int.fdiv a0 (2 ^ 1)) &&& BitVec.ofInt (IntKind.bits .u64) 6148914691236517205))) + (IntKind.wrap .u64 (BitVec.toNat (BitVec.ofInt (IntKind.bits .u64) a0 &&& BitVec.ofInt (IntKind.bits .u64) 6148914691236517205))))) &&& BitVec.ofInt (IntKind.bits .u64) 3689348814741910323))))))) &&& BitVec.ofInt (IntKind.bits .u64) 1085102592571150095))) + (Int.fdiv (IntKind.wrap .u64 (BitVec.toNat (BitVec.ofInt (IntKind.bits .u64) (IntKind.wrap .u64 ((Int.fdiv (IntKind.wrap .u64 ((IntKind.wrap .u64 (BitVec.toNat (BitVec.ofInt (IntKind.bits .u64) (Int.fdiv (IntKind.wrap .u64 ((IntKind.wrap .u64 (BitVec.toNat (BitVec.ofInt (IntKind.bits .u64) (Int.fdiv a0 (2 ^ 1)) &&& BitVec.ofInt (IntKind.bits .u64) 6148914691236517205))) + (IntKind.wrap .u64 (BitVec.toNat (BitVec.ofInt (IntKind.bits .u64) a0 &&& BitVec.ofInt (IntKind.bits .u64) 6148914691236517205))))) (2 ^ 2)) &&& BitVec.ofInt (IntKind.bits .u64) 3689348814741910323))) + (IntKind.wrap .u64 (BitVec.toNat (BitVec.ofInt (IntKind.bits .u64) (IntKind.wrap .u64 ((IntKind.wrap .u64 (BitVec.toNat (BitVec.ofInt (IntKind.bits .u64) (Int.fdiv a0 (2 ^ 1)) &&& BitVec.ofInt (IntKind.bits .u64) 6148914691236517205))) + (IntKind.wrap .u64 (BitVec.toNat (BitVec.ofInt (IntKind.bits .u64) a0 &&& BitVec.ofInt (IntKind.bits .u64) 6148914691236517205))))) &&& BitVec.ofInt (IntKind.bits .u64) 3689348814741910323))))) (2 ^ 4)) + (IntKind.wrap .u64 ((IntKind.wrap .u64 (BitVec.toNat (BitVec.ofInt (IntKind.bits .u64) (Int.fdiv (IntKind.wrap .u64 ((IntKind.wrap .u64 (BitVec.toNat (BitVec.ofInt (IntKind.bits .u64) (Int.fdiv a0 (2 ^ 1)) &&& BitVec.ofInt (IntKind.bits .u64) 6148914691236517205))) + (IntKind.wrap .u64 (BitVec.toNat (BitVec.ofInt (IntKind.bits .u64) a0 &&& BitVec.ofInt (IntKind.bits .u64) 6148914691236517205))))) (2 ^ 2)) &&& BitVec.ofInt (IntKind.bits .u64) 3689348814741910323))) + (IntKind.wrap .u64 (BitVec.toNat (BitVec.ofInt (IntKind.bits .u64) (IntKind.wrap .u64 ((IntKind.wrap .u64 (BitVec.toNat (BitVec.ofInt (IntKind.bits .u64) (Int.fdiv a0 (2 ^ 1)) &&& BitVec.ofInt (IntKind.bits .u64) 6148914691236517205))) + (IntKind.wrap .u64 (BitVec.toNat (BitVec.ofInt (IntKind.bits .u64) a0 &&& BitVec.ofInt (IntKind.bits .u64) 6148914691236517205))))) &&& BitVec.ofInt (IntKind.bits .u64) 3689348814741910323))))))) &&& BitVec.ofInt (IntKind.bits .u64) 1085102592571150095))) (2 ^ 8)))) + (Int.fdiv (IntKind.wrap .u64 ((IntKind.wrap .u64 (BitVec.toNat (BitVec.ofInt (IntKind.bits .u64) (IntKind.wrap .u64 ((Int.fdiv (IntKind.wrap .u64 ((IntKind.wrap .u64 (BitVec.toNat (BitVec.ofInt (IntKind.bits .u64) (Int.fdiv (IntKind.wrap .u64 ((IntKind.wrap .u64 (BitVec.toNat (BitVec.ofInt (IntKind.bits .u64) (Int.fdiv a0 (2 ^ 1)) &&& BitVec.ofInt (IntKind.bits .u64) 6148914691236517205))) + (IntKind.wrap .u64 (BitVec.toNat (BitVec.ofInt (IntKind.bits .u64) a0 &&& BitVec.ofInt (IntKind.bits .u64) 6148914691236517205))))) (2 ^ 2)) &&& BitVec.ofInt (IntKind.bits .u64) 3689348814741910323))) + (IntKind.wrap .u64 (BitVec.toNat (BitVec.ofInt (IntKind.bits .u64) (IntKind.wrap .u64 ((IntKind.wrap .u64 (BitVec.toNat (BitVec.ofInt (IntKind.bits .u64) (Int.fdiv a0 (2 ^ 1)) &&& BitVec.ofInt (IntKind.bits .u64) 6148914691236517205))) + (IntKind.wrap .u64 (BitVec.toNat (BitVec.ofInt (IntKind.bits .u64) a0 &&& BitVec.ofInt (IntKind.bits .u64) 6148914691236517205))))) &&& BitVec.ofInt (IntKind.bits .u64) 3689348814741910323))))) (2 ^ 4)) + (IntKind.wrap .u64 ((IntKind.wrap .u64 (BitVec.toNat (BitVec.ofInt (IntKind.bits .u64) (Int.fdiv (IntKind.wrap .u64 ((IntKind.wrap .u64 (BitVec.toNat (BitVec.ofInt (IntKind.bits .u64) (Int.fdiv a0 (2 ^ 1)) &&& BitVec.ofInt (IntKind.bits .u64) 6148914691236517205))) + (IntKind.wrap .u64 (BitVec.toNat (BitVec.ofInt (IntKind.bits .u64) a0 &&& BitVec.ofInt (IntKind.bits .u64) 6148914691236517205))))) (2 ^ 2)) &&& BitVec.ofInt (IntKind.bits .u64) 3689348814741910323))) + (IntKind.wrap .u64 (BitVec.toNat (BitVec.ofInt (IntKind.bits .u64) (IntKind.wrap .u64 ((IntKind.wrap .u64 (BitVec.toNat (BitVec.ofInt (IntKind.bits .u64) (Int.fdiv a0 (2 ^ 1)) &&& BitVec.ofInt (IntKind.bits .u64) 6148914691236517205))) + (IntKind.wrap .u64 (BitVec.toNat (BitVec.ofInt (IntKind.bits .u64) a0 &&& BitVec.ofInt (IntKind.bits .u64) 6148914691236517205))))) &&& BitVec.ofInt (IntKind.bits .u64) 3689348814741910323))))))) &&& BitVec.ofInt (IntKind.bits .u64) 1085102592571150095))) + (Int.fdiv (IntKind.wrap .u64 (BitVec.toNat (BitVec.ofInt (IntKind.bits .u64) (IntKind.wrap .u64 ((Int.fdiv (IntKind.wrap .u64 ((IntKind.wrap .u64 (BitVec.toNat (BitVec.ofInt (IntKind.bits .u64) (Int.fdiv (IntKind.wrap .u64 ((IntKind.wrap .u64 (BitVec.toNat (BitVec.ofInt (IntKind.bits .u64) (Int.fdiv a0 (2 ^ 1)) &&& BitVec.ofInt (IntKind.bits .u64) 6148914691236517205))) + (IntKind.wrap .u64 (BitVec.toNat (BitVec.ofInt (IntKind.bits .u64) a0 &&& BitVec.ofInt (IntKind.bits .u64) 6148914691236517205))))) (2 ^ 2)) &&& BitVec.ofInt (IntKind.bits .u64) 3689348814741910323))) + (IntKind.wrap .u64 (BitVec.toNat (BitVec.ofInt (IntKind.bits .u64) (IntKind.wrap .u64 ((IntKind.wrap .u64 (BitVec.toNat (BitVec.ofInt (IntKind.bits .u64) (Int.fdiv a0 (2 ^ 1)) &&& BitVec.ofInt (IntKind.bits .u64) 6148914691236517205))) + (IntKind.wrap .u64 (BitVec.toNat (BitVec.ofInt (IntKind.bits .u64) a0 &&& BitVec.ofInt (IntKind.bits .u64) 6148914691236517205))))) &&& BitVec.ofInt (IntKind.bits .u64) 3689348814741910323))))) (2 ^ 4)) + (IntKind.wrap .u64 ((IntKind.wrap .u64 (BitVec.toNat (BitVec.ofInt (IntKind.bits .u64) (Int.fdiv (IntKind.wrap .u64 ((IntKind.wrap .u64 (BitVec.toNat (BitVec.ofInt (IntKind.bits .u64) (Int.fdiv a0 (2 ^ 1)) &&& BitVec.ofInt (IntKind.bits .u64) 6148914691236517205))) + (IntKind.wrap .u64 (BitVec.toNat (BitVec.ofInt (IntKind.bits .u64) a0 &&& BitVec.ofInt (IntKind.bits .u64) 6148914691236517205))))) (2 ^ 2)) &&& BitVec.ofInt (IntKind.bits .u64) 3689348814741910323))) + (IntKind.wrap .u64 (BitVec.toNat (BitVec.ofInt (IntKind.bits .u64) (IntKind.wrap .u64 ((IntKind.wrap .u64 (BitVec.toNat (BitVec.ofInt (IntKind.bits .u64) (Int.fdiv a0 (2 ^ 1)) &&& BitVec.ofInt (IntKind.bits .u64) 6148914691236517205))) + (IntKind.wrap .u64 (BitVec.toNat (BitVec.ofInt (IntKind.bits .u64) a0 &&& BitVec.ofInt (IntKind.bits .u64) 6148914691236517205))))) &&& BitVec.ofInt (IntKind.bits .u64) 3689348814741910323))))))) &&& BitVec.ofInt (IntKind.bits .u64) 1085102592571150095))) (2 ^ 8)))) (2 ^ 16)))) (2 ^ 32))))) &&& BitVec.ofInt (IntKind.bits .i64) 127))) = y)
theorem math_bits_OnesCount64_tree (a0 : Int) (y : Int) : acall math_bits_OnesCount64_cx okT lpT 60 (.fn 136 [] []) [(V.int .u64 a0)] [] (leafK (.int .i64) y) =
    (req true (req true (req true (req true (req true (req true (req true (req true (req true (req true (req true (req true (req true (req true (req true (req true (req true (req true (req true (req true (req true (req true (req true (req true (req true (req true (req true (req true (req true (req true (req true (req true (req true (req true (req true (req true (req true (req true (req true (req true (req true ((IntKind.wrap .i64 (BitVec.toNat (BitVec.ofInt (IntKind.bits .i64) (IntKind.wrap .i64 (IntKind.wrap .u64 ((IntKind.wrap .u64 ((IntKind.wrap .u64 ((IntKind.wrap .u64 (BitVec.toNat (BitVec.ofInt (IntKind.bits .u64) (IntKind.wrap .u64 ((Int.fdiv (IntKind.wrap .u64 ((IntKind.wrap .u64 (BitVec.toNat (BitVec.ofInt (IntKind.bits .u64) (Int.fdiv (IntKind.wrap .u64 ((IntKind.wrap .u64 (BitVec.toNat (BitVec.ofInt (IntKind.bits .u64) (Int.fdiv a0 (2 ^ 1)) &&& BitVec.ofInt (IntKind.bits .u64) 6148914691236517205))) + (IntKind.wrap .u64 (BitVec.toNat (BitVec.ofInt (IntKind.bits .u64) a0 &&& BitVec.ofInt (IntKind.bits .u64) 6148914691236517205))))) (2 ^ 2)) &&& BitVec.ofInt (IntKind.bits .u64) 3689348814741910323))) + (IntKind.wrap .u64 (BitVec.toNat (BitVec.ofInt (IntKind.bits .u64) (IntKind.wrap .u64 ((IntKind.wrap .u64 (BitVec.toNat (BitVec.ofInt (IntKind.bits .u64) (Int.fdiv a0 (2 ^ 1)) &&& BitVec.ofInt (IntKind.bits .u64) 6148914691236517205))) + (IntKind.wrap .u64 (BitVec.toNat (BitVec.ofInt (IntKind.bits .u64) a0 &&& BitVec.ofInt (IntKind.bits .u64) 6148914691236517205))))) &&& BitVec.ofInt (IntKind.bits .u64) 3689348814741910323))))) (2 ^ 4)) + (IntKind.wrap .u64 ((IntKind.wrap .u64 (BitVec.toNat (BitVec.ofInt (IntKind.bits .u64) (Int.fdiv (IntKind.wrap .u64 ((IntKind.wrap .u64 (BitVec.toNat (BitVec.ofInt (IntKind.bits .u64) (Int.fdiv a0 (2 ^ 1)) &&& BitVec.ofInt (IntKind.bits .u64) 6148914691236517205))) + (IntKind.wrap .u64 (BitVec.toNat (BitVec.ofInt (IntKind.bits .u64) a0 &&& BitVec.ofInt (IntKind.bits .u64) 6148914691236517205))))) (2 ^ 2)) &&& BitVec.ofInt (IntKind.bits .u64) 3689348814741910323))) + (IntKind.wrap .u64 (BitVec.toNat (BitVec.ofInt (IntKind.bits .u64) (IntKind.wrap .u64 ((IntKind.wrap .u64 (BitVec.toNat (BitVec.ofInt (IntKind.bits .u64) (Int.fdiv a0 (2 ^ 1)) &&& BitVec.ofInt (IntKind.bits .u64) 6148914691236517205))) + (IntKind.wrap .u64 (BitVec.toNat (BitVec.ofInt (IntKind.bits .u64) a0 &&& BitVec.ofInt (IntKind.bits .u64) 6148914691236517205))))) &&& BitVec.ofInt (IntKind.bits .u64) 3689348814741910323))))))) &&& BitVec.ofInt (IntKind.bits .u64) 1085102592571150095))) + (Int.fdiv (IntKind.wrap .u64 (BitVec.toNat (BitVec.ofInt (IntKind.bits .u64) (IntKind.wrap .u64 ((Int.fdiv (IntKind.wrap .u64 ((IntKind.wrap .u64 (BitVec.toNat (BitVec.ofInt (IntKind.bits .u64) (Int.fdiv (IntKind.wrap .u64 ((IntKind.wrap .u64 (BitVec.toNat (BitVec.ofInt (IntKind.bits .u64) (Int.fdiv a0 (2 ^ 1)) &&& BitVec.ofInt (IntKind.bits .u64) 6148914691236517205))) + (IntKind.wrap .u64 (BitVec.toNat (BitVec.ofInt (IntKind.bits .u64) a0 &&& BitVec.ofInt (IntKind.bits .u64) 6148914691236517205))))) (2 ^ 2)) &&& BitVec.ofInt (IntKind.bits .u64) 3689348814741910323))) + (IntKind.wrap .u64 (BitVec.toNat (BitVec.ofInt (IntKind.bits .u64) (IntKind.wrap .u64 ((IntKind.wrap .u64 (BitVec.toNat (BitVec.ofInt (IntKind.bits .u64) (Int.fdiv a0 (2 ^ 1)) &&& BitVec.ofInt (IntKind.bits .u64) 6148914691236517205))) + (IntKind.wrap .u64 (BitVec.toNat (BitVec.ofInt (IntKind.bits .u64) a0 &&& BitVec.ofInt (IntKind.bits .u64) 6148914691236517205))))) &&& BitVec.ofInt (IntKind.bits .u64) 3689348814741910323))))) (2 ^ 4)) + (IntKind.wrap .u64 ((IntKind.wrap .u64 (BitVec.toNat (BitVec.ofInt (IntKind.bits .u64) (Int.fdiv (IntKind.wrap .u64 ((IntKind.wrap .u64 (BitVec.toNat (BitVec.ofInt (IntKind.bits .u64) (Int.fdiv a0 (2 ^ 1)) &&& BitVec.ofInt (IntKind.bits .u64) 6148914691236517205))) + (IntKind.wrap .u64 (BitVec.toNat (BitVec.ofInt (IntKind.bits .u64) a0 &&& BitVec.ofInt (IntKind.bits .u64) 6148914691236517205))))) (2 ^ 2)) &&& BitVec.ofInt (IntKind.bits .u64) 3689348814741910323))) + (IntKind.wrap .u64 (BitVec.toNat (BitVec.ofInt (IntKind.bits .u64) (IntKind.wrap .u64 ((IntKind.wrap .u64 (BitVec.toNat (BitVec.ofInt (IntKind.bits .u64) (Int.fdiv a0 (2 ^ 1)) &&& BitVec.ofInt (IntKind.bits .u64) 6148914691236517205))) + (IntKind.wrap .u64 (BitVec.toNat (BitVec.ofInt (IntKind.bits .u64) a0 &&& BitVec.ofInt (IntKind.bits .u64) 6148914691236517205))))) &&& BitVec.ofInt (IntKind.bits .u64) 3689348814741910323))))))) &&& BitVec.ofInt (IntKind.bits .u64) 1085102592571150095))) (2 ^ 8)))) + (Int.fdiv (IntKind.wrap .u64 ((IntKind.wrap .u64 (BitVec.toNat (BitVec.ofInt (IntKind.bits .u64) (IntKind.wrap .u64 ((Int.fdiv (IntKind.wrap .u64 ((IntKind.wrap .u64 (BitVec.toNat (BitVec.ofInt (IntKind.bits .u64) (Int.fdiv (IntKind.wrap .u64 ((IntKind.wrap .u64 (BitVec.toNat (BitVec.ofInt (IntKind.bits .u64) (Int.fdiv a0 (2 ^ 1)) &&& BitVec.ofInt (IntKind.bits .u64) 6148914691236517205))) + (IntKind.wrap .u64 (BitVec.toNat (BitVec.ofInt (IntKind.bits .u64) a0 &&& BitVec.ofInt (IntKind.bits .u64) 6148914691236517205))))) (2 ^ 2)) &&& BitVec.ofInt (IntKind.bits .u64) 3689348814741910323))) + (IntKind.wrap .u64 (BitVec.toNat (BitVec.ofInt (IntKind.bits .u64) (IntKind.wrap .u64 ((IntKind.wrap .u64 (BitVec.toNat (BitVec.ofInt (IntKind.bits .u64) (Int.fdiv a0 (2 ^ 1)) &&& BitVec.ofInt (IntKind.bits .u64) 6148914691236517205))) + (IntKind.wrap .u64 (BitVec.toNat (BitVec.ofInt (IntKind.bits .u64) a0 &&& BitVec.ofInt (IntKind.bits .u64) 6148914691236517205))))) &&& BitVec.ofInt (IntKind.bits .u64) 3689348814741910323))))) (2 ^ 4)) + (IntKind.wrap .u64 ((IntKind.wrap .u64 (BitVec.toNat (BitVec.ofInt (IntKind.bits .u64) (Int.fdiv (IntKind.wrap .u64 ((IntKind.wrap .u64 (BitVec.toNat (BitVec.ofInt (IntKind.bits .u64) (Int.fdiv a0 (2 ^ 1)) &&& BitVec.ofInt (IntKind.bits .u64) 6148914691236517205))) + (IntKind.wrap .u64 (BitVec.toNat (BitVec.ofInt (IntKind.bits .u64) a0 &&& BitVec.ofInt (IntKind.bits .u64) 6148914691236517205))))) (2 ^ 2)) &&& BitVec.ofInt (IntKind.bits .u64) 3689348814741910323))) + (IntKind.wrap .u64 (BitVec.toNat (BitVec.ofInt (IntKind.bits .u64) (IntKind.wrap .u64 ((IntKind.wrap .u64 (BitVec.toNat (BitVec.ofInt (IntKind.bits .u64) (Int.fdiv a0 (2 ^ 1)) &&& BitVec.ofInt (IntKind.bits .u64) 6148914691236517205))) + (IntKind.wrap .u64 (BitVec.toNat (BitVec.ofInt (IntKind.bits .u64) a0 &&& BitVec.ofInt (IntKind.bits .u64) 6148914691236517205))))) &&& BitVec.ofInt (IntKind.bits .u64) 3689348814741910323))))))) &&& BitVec.ofInt (IntKind.bits .u64) 1085102592571150095))) + (Int.fdiv (IntKind.wrap .u64 (BitVec.toNat (BitVec.ofInt (IntKind.bits .u64) (IntKind.wrap .u64 ((Int.fdiv (IntKind.wrap .u64 ((IntKind.wrap .u64 (BitVec.toNat (BitVec.ofInt (IntKind.bits .u64) (Int.fdiv (IntKind.wrap .u64 ((IntKind.wrap .u64 (BitVec.toNat (BitVec.ofInt (IntKind.bits .u64) (Int.fdiv a0 (2 ^ 1)) &&& BitVec.ofInt (IntKind.bits .u64) 6148914691236517205))) + (IntKind.wrap .u64 (BitVec.toNat (BitVec.ofInt (IntKind.bits .u64) a0 &&& BitVec.ofInt (IntKind.bits .u64) 6148914691236517205))))) (2 ^ 2)) &&& BitVec.ofInt (IntKind.bits .u64) 3689348814741910323))) + (IntKind.wrap .u64 (BitVec.toNat (BitVec.ofInt (IntKind.bits .u64) (IntKind.wrap .u64 ((IntKind.wrap .u64 (BitVec.toNat (BitVec.ofInt (IntKind.bits .u64) (Int.fdiv a0 (2 ^ 1)) &&& BitVec.ofInt (IntKind.bits .u64) 6148914691236517205))) + (IntKind.wrap .u64 (BitVec.toNat (BitVec.ofInt (IntKind.bits .u64) a0 &&& BitVec.ofInt (IntKind.bits .u64) 6148914691236517205))))) &&& BitVec.ofInt (IntKind.bits .u64) 3689348814741910323))))) (2 ^ 4)) + (IntKind.wrap .u64 ((IntKind.wrap .u64 (BitVec.toNat (BitVec.ofInt (IntKind.bits .u64) (Int.fdiv (IntKind.wrap .u64 ((IntKind.wrap .u64 (BitVec.toNat (BitVec.ofInt (IntKind.bits .u64) (Int.fdiv a0 (2 ^ 1)) &&& BitVec.ofInt (IntKind.bits .u64) 6148914691236517205))) + (IntKind.wrap .u64 (BitVec.toNat (BitVec.ofInt (IntKind.bits .u64) a0 &&& BitVec.ofInt (IntKind.bits .u64) 6148914691236517205))))) (2 ^ 2)) &&& BitVec.ofInt (IntKind.bits .u64) 3689348814741910323))) + (IntKind.wrap .u64 (BitVec.toNat (BitVec.ofInt (IntKind.bits .u64) (IntKind.wrap .u64 ((IntKind.wrap .u64 (BitVec.toNat (BitVec.ofInt (IntKind.bits .u64) (Int.fdiv a0 (2 ^ 1)) &&& BitVec.ofInt (IntKind.bits .u64) 6148914691236517205))) + (IntKind.wrap .u64 (BitVec.toNat (BitVec.ofInt (IntKind.bits .u64) a0 &&& BitVec.ofInt (IntKind.bits .u64) 6148914691236517205))))) &&& BitVec.ofInt (IntKind.bits .u64) 3689348814741910323))))))) &&& BitVec.ofInt (IntKind.bits .u64) 1085102592571150095))) (2 ^ 8)))) (2 ^ 16)))) + (Int.fdiv (IntKind.wrap .u64 ((IntKind.wrap .u64 ((IntKind.wrap .u64 (BitVec.toNat (BitVec.ofInt (IntKind.bits .u64) (IntKind.wrap .u64 ((Int.fdiv (IntKind.wrap .u64 ((IntKind.wrap .u64 (BitVec.toNat (BitVec.ofInt (IntKind.bits .u64) (Int.fdiv (IntKind.wrap .u64 ((IntKind.wrap .u64 (BitVec.toNat (BitVec.ofInt (IntKind.bits .u64) (Int.fdiv a0 (2 ^ 1)) &&& BitVec.ofInt (IntKind.bits .u64) 6148914691236517205))) + (IntKind.wrap .u64 (BitVec.toNat (BitVec.ofInt (IntKind.bits .u64) a0 &&& BitVec.ofInt (IntKind.bits .u64) 6148914691236517205))))) (2 ^ 2)) &&& BitVec.ofInt (IntKind.bits .u64) 3689348814741910323))) + (IntKind.wrap .u64 (BitVec.toNat (BitVec.ofInt (IntKind.bits .u64) (IntKind.wrap .u64 ((IntKind.wrap .u64 (BitVec.toNat (BitVec.ofInt (IntKind.bits .u64) (Int.fdiv a0 (2 ^ 1)) &&& BitVec.ofInt (IntKind.bits .u64) 6148914691236517205))) + (IntKind.wrap .u64 (BitVec.toNat (BitVec.ofInt (IntKind.bits .u64) a0 &&& BitVec.ofInt (IntKind.bits .u64) 6148914691236517205))))) &&& BitVec.ofInt (IntKind.bits .u64) 3689348814741910323))))) (2 ^ 4)) + (IntKind.wrap .u64 ((IntKind.wrap .u64 (BitVec.toNat (BitVec.ofInt (IntKind.bits .u64) (Int.fdiv (IntKind.wrap .u64 ((IntKind.wrap .u64 (BitVec.toNat (BitVec.ofInt (IntKind.bits .u64) (Int.fdiv a0 (2 ^ 1)) &&& BitVec.ofInt (IntKind.bits .u64) 6148914691236517205))) + (IntKind.wrap .u64 (BitVec.toNat (BitVec.ofInt (IntKind.bits .u64) a0 &&& BitVec.ofInt (IntKind.bits .u64) 6148914691236517205))))) (2 ^ 2)) &&& BitVec.ofInt (IntKind.bits .u64) 3689348814741910323))) + (IntKind.wrap .u64 (BitVec.toNat (BitVec.ofInt (IntKind.bits .u64) (IntKind.wrap .u64 ((IntKind.wrap .u64 (BitVec.toNat (BitVec.ofInt (IntKind.bits .u64) (Int.fdiv a0 (2 ^ 1)) &&& BitVec.ofInt (IntKind.bits .u64) 6148914691236517205))) + (IntKind.wrap .u64 (BitVec.toNat (BitVec.ofInt (IntKind.bits .u64) a0 &&& BitVec.ofInt (IntKind.bits .u64) 6148914691236517205))))) &&& BitVec.ofInt (IntKind.bits .u64) 3689348814741910323))))))) &&& BitVec.ofInt (IntKind.bits .u64) 1085102592571150095))) + (Int.fdiv (IntKind.wrap .u64 (BitVec.toNat (BitVec.ofInt (IntKind.bits .u64) (IntKind.wrap .u64 ((Int.fdiv (IntKind.wrap .u64 ((IntKind.wrap .u64 (BitVec.toNat (BitVec.ofInt (IntKind.bits .u64) (Int.fdiv (IntKind.wrap .u64 ((IntKind.wrap .u64 (BitVec.toNat (BitVec.ofInt (IntKind.bits .u64) (Int.fdiv a0 (2 ^ 1)) &&& BitVec.ofInt (IntKind.bits .u64) 6148914691236517205))) + (IntKind.wrap .u64 (BitVec.toNat (BitVec.ofInt (IntKind.bits .u64) a0 &&& BitVec.ofInt (IntKind.bits .u64) 6148914691236517205))))) (2 ^ 2)) &&& BitVec.ofInt (IntKind.bits .u64) 3689348814741910323))) + (IntKind.wrap .u64 (BitVec.toNat (BitVec.ofInt (IntKind.bits .u64) (IntKind.wrap .u64 ((IntKind.wrap .u64 (BitVec.toNat (BitVec.ofInt (IntKind.bits .u64) (Int.fdiv a0 (2 ^ 1)) &&& BitVec.ofInt (IntKind.bits .u64) 6148914691236517205))) + (IntKind.wrap .u64 (BitVec.toNat (BitVec.ofInt (IntKind.bits .u64) a0 &&& BitVec.ofInt (IntKind.bits .u64) 6148914691236517205))))) &&& BitVec.ofInt (IntKind.bits .u64) 3689348814741910323))))) (2 ^ 4)) + (IntKind.wrap .u64 ((IntKind.wrap .u64 (BitVec.toNat (BitVec.ofInt (IntKind.bits .u64) (Int.fdiv (IntKind.wrap .u64 ((IntKind.wrap .u64 (BitVec.toNat (BitVec.ofInt (IntKind.bits .u64) (Int.fdiv a0 (2 ^ 1)) &&& BitVec.ofInt (IntKind.bits .u64) 6148914691236517205))) + (IntKind.wrap .u64 (BitVec.toNat (BitVec.ofInt (IntKind.bits .u64) a0 &&& BitVec.ofInt (IntKind.bits .u64) 6148914691236517205))))) (2 ^ 2)) &&& BitVec.ofInt (IntKind.bits .u64) 3689348814741910323))) + (IntKind.wrap .u64 (BitVec.toNat (BitVec.ofInt (IntKind.bits .u64) (IntKind.wrap .u64 ((IntKind.wrap .u64 (BitVec.toNat (BitVec.ofInt (IntKind.bits .u64) (Int.fdiv a0 (2 ^ 1)) &&& BitVec.ofInt (IntKind.bits .u64) 6148914691236517205))) + (IntKind.wrap .u64 (BitVec.toNat (BitVec.ofInt (IntKind.bits .u64) a0 &&& BitVec.ofInt (IntKind.bits .u64) 6148914691236517205))))) &&& BitVec.ofInt (IntKind.bits .u64) 3689348814741910323))))))) &&& BitVec.ofInt (IntKind.bits .u64) 1085102592571150095))) (2 ^ 8)))) + (Int.fdiv (IntKind.wrap .u64 ((IntKind.wrap .u64 (BitVec.toNat (BitVec.ofInt (IntKind.bits .u64) (IntKind.wrap .u64 ((Int.fdiv (IntKind.wrap .u64 ((IntKind.wrap .u64 (BitVec.toNat (BitVec.ofInt (IntKind.bits .u64) (Int.fdiv (IntKind.wrap .u64 ((IntKind.wrap .u64 (BitVec.toNat (BitVec.ofInt (IntKind.bits .u64) (Int.fdiv a0 (2 ^ 1)) &&& BitVec.ofInt (IntKind.bits .u64) 6148914691236517205))) + (IntKind.wrap .u64 (BitVec.toNat (BitVec.ofInt (IntKind.bits .u64) a0 &&& BitVec.ofInt (IntKind.bits .u64) 6148914691236517205))))) (2 ^ 2)) &&& BitVec.ofInt (IntKind.bits .u64) 3689348814741910323))) + (IntKind.wrap .u64 (BitVec.toNat (BitVec.ofInt (IntKind.bits .u64) (IntKind.wrap .u64 ((IntKind.wrap .u64 (BitVec.toNat (BitVec.ofInt (IntKind.bits .u64) (Int.fdiv a0 (2 ^ 1)) &&& BitVec.ofInt (IntKind.bits .u64) 6148914691236517205))) + (IntKind.wrap .u64 (BitVec.toNat (BitVec.ofInt (IntKind.bits .u64) a0 &&& BitVec.ofInt (IntKind.bits .u64) 6148914691236517205))))) &&& BitVec.ofInt (IntKind.bits .u64) 3689348814741910323))))) (2 ^ 4)) + (IntKind.wrap .u64 ((IntKind.wrap .u64 (BitVec.toNat (BitVec.ofInt (IntKind.bits .u64) (Int.fdiv (IntKind.wrap .u64 ((IntKind.wrap .u64 (BitVec.toNat (BitVec.ofInt (IntKind.bits .u64) (Int.fdiv a0 (2 ^ 1)) &&& BitVec.ofInt (IntKind.bits .u64) 6148914691236517205))) + (IntKind.wrap .u64 (BitVec.toNat (BitVec.ofInt (IntKind.bits .u64) a0 &&& BitVec.ofInt (IntKind.bits .u64) 6148914691236517205))))) (2 ^ 2)) &&& BitVec.ofInt (IntKind.bits .u64) 3689348814741910323))) + (IntKind.wrap .u64 (BitVec.toNat (BitVec.ofInt (IntKind.bits .u64) (IntKind.wrap .u64 ((IntKind.wrap .u64 (BitVec.toNat (BitVec.ofInt (IntKind.bits .u64) (Int.fdiv a0 (2 ^ 1)) &&& BitVec.ofInt (IntKind.bits .u64) 6148914691236517205))) + (IntKind.wrap .u64 (BitVec.toNat (BitVec.ofInt (IntKind.bits .u64) a0 &&& BitVec.ofInt (IntKind.bits .u64) 6148914691236517205))))) &&& BitVec.ofInt (IntKind.bits .u64) 3689348814741910323))))))) &&& BitVec.ofInt (IntKind.bits .u64) 1085102592571150095))) + (Int.fdiv (IntKind.wrap .u64 (BitVec.toNat (BitVec.ofInt (IntKind.bits .u64) (IntKind.wrap .u64 ((Int.fdiv (IntKind.wrap .u64 ((IntKind.wrap .u64 (BitVec.toNat (BitVec.ofInt (IntKind.bits .u64) (Int.fdiv (IntKind.wrap .u64 ((IntKind.wrap .u64 (BitVec.toNat (BitVec.ofInt (IntKind.bits .u64) (Int.fdiv a0 (2 ^ 1)) &&& BitVec.ofInt (IntKind.bits .u64) 6148914691236517205))) + (IntKind.wrap .u64 (BitVec.toNat (BitVec.ofInt (IntKind.bits .u64) a0 &&& BitVec.ofInt (IntKind.bits .u64) 6148914691236517205))))) (2 ^ 2)) &&& BitVec.ofInt (IntKind.bits .u64) 3689348814741910323))) + (IntKind.wrap .u64 (BitVec.toNat (BitVec.ofInt (IntKind.bits .u64) (IntKind.wrap .u64 ((IntKind.wrap .u64 (BitVec.toNat (BitVec.ofInt (IntKind.bits .u64) (Int.fdiv a0 (2 ^ 1)) &&& BitVec.ofInt (IntKind.bits .u64) 6148914691236517205))) + (IntKind.wrap .u64 (BitVec.toNat (BitVec.ofInt (IntKind.bits .u64) a0 &&& BitVec.ofInt (IntKind.bits .u64) 6148914691236517205))))) &&& BitVec.ofInt (IntKind.bits .u64) 3689348814741910323))))) (2 ^ 4)) + (IntKind.wrap .u64 ((IntKind.wrap .u64 (BitVec.toNat (BitVec.ofInt (IntKind.bits .u64) (Int.fdiv (IntKind.wrap .u64 ((IntKind.wrap .u64 (BitVec.toNat (BitVec.ofInt (IntKind.bits .u64) (Int.fdiv a0 (2 ^ 1)) &&& BitVec.ofInt (IntKind.bits .u64) 6148914691236517205))) + (IntKind.wrap .u64 (BitVec.toNat (BitVec.ofInt (IntKind.bits .u64) a0 &&& BitVec.ofInt (IntKind.bits .u64) 6148914691236517205))))) (2 ^ 2)) &&& BitVec.ofInt (IntKind.bits .u64) 3689348814741910323))) + (IntKind.wrap .u64 (BitVec.toNat (BitVec.ofInt (IntKind.bits .u64) (IntKind.wrap .u64 ((IntKind.wrap .u64 (BitVec.toNat (BitVec.ofInt (IntKind.bits .u64) (Int.fdiv a0 (2 ^ 1)) &&& BitVec.ofInt (IntKind.bits .u64) 6148914691236517205))) + (IntKind.wrap .u64 (BitVec.toNat (BitVec.ofInt (IntKind.bits .u64) a0 &&& BitVec.ofInt (IntKind.bits .u64) 6148914691236517205))))) &&& BitVec.ofInt (IntKind.bits .u64) 3689348814741910323))))))) &&& BitVec.ofInt (IntKind.bits .u64) 1085102592571150095))) (2 ^ 8)))) (2 ^ 16)))) (2 ^ 32))))) &&& BitVec.ofInt (IntKind.bits .i64) 127))) = y)))))))))))))))))))))))))))))))))))))))))) := by kernel_rfl
theorem math_bits_OnesCount64_run (a0 : Int) (y : Int) (h : math_bits_OnesCount64_R a0 y) : acall math_bits_OnesCount64_cx okT lpT 60 (.fn 136 [] []) [(V.int .u64 a0)] [] (leafK (.int .i64) y) := by
  refine cast (math_bits_OnesCount64_tree a0 y).symm ?_
  unfold math_bits_OnesCount64_R at h
  iterate 40 refine req_intro rfl ?_
  exact req_intro rfl h
theorem math_bits_OnesCount64_ok : FxOk Tryd.prog gsT 136 (.one (.int .u64)) (.int .i64) fun x y => math_bits_OnesCount64_R x y := fx_of (c := math_bits_OnesCount64_cx) (ty_ok rfl) (eq_ok rfl) math_bits_OnesCount64_fns follows_ok (ok := okT) (lp := lpT) (n := 60) lp_ok (enters Tryd.func136 (by kernel_rfl) rfl) (fun y => ⟨_, rfl⟩) fun x y h => math_bits_OnesCount64_run _ y h
noncomputable def mask_Count_cx : Cx := ⟨tyT, [(132, .body Tryd.f132),
  (136, .fx (.one (.int .u64)) (.int .i64) fun x y => math_bits_OnesCount64_R x y)], gsT, eqT⟩
theorem mask_Count_fns : FnsOk Tryd.prog mask_Count_cx := Fns_assoc ⟨body_ent Tryd.func132 (by kernel_rfl) (by kernel_rfl), math_bits_OnesCount64_ok, trivial⟩
def mask_Count_R (a0 : Int) (y : Int) : Prop :=
  (∃ y1 : Int, (math_bits_OnesCount64_R a0 y1) ∧ (y1 = y))
theorem mask_Count_tree (a0 : Int) (y : Int) : acall mask_Count_cx okT lpT 60 (.fn 132 [] []) [(V.int .u64 a0)] [] (leafK (.int .i64) y) =
    (req true (req true (req true (∃ y1 : Int, (math_bits_OnesCount64_R a0 y1) ∧ (req true (req true (y1 = y))))))) := by kernel_rfl
theorem mask_Count_run (a0 : Int) (y : Int) (h : mask_Count_R a0 y) : acall mask_Count_cx okT lpT 60 (.fn 132 [] []) [(V.int .u64 a0)] [] (leafK (.int .i64) y) := by
  refine cast (mask_Count_tree a0 y).symm ?_
  unfold mask_Count_R at h
  iterate 3 refine req_intro rfl ?_
  obtain ⟨y1, ry1, h⟩ := h
  refine ⟨y1, ry1, ?_⟩
  refine req_intro rfl ?_
  exact req_intro rfl h
theorem mask_Count_ok : FxOk Tryd.prog gsT 132 (.one (.int .u64)) (.int .i64) fun x y => mask_Count_R x y := fx_of (c := mask_Count_cx) (ty_ok rfl) (eq_ok rfl) mask_Count_fns follows_ok (ok := okT) (lp := lpT) (n := 60) lp_ok (enters Tryd.func132 (by kernel_rfl) rfl) (fun y => ⟨_, rfl⟩) fun x y h => mask_Count_run _ y h
noncomputable def math_bits_TrailingZeros64_cx : Cx := ⟨tyT, [(138, .body Tryd.f138)], gsT, eqT⟩
theorem math_bits_TrailingZeros64_fns : FnsOk Tryd.prog math_bits_TrailingZeros64_cx := Fns_assoc ⟨body_ent Tryd.func138 (by kernel_rfl) (by kernel_rfl), trivial⟩
def math_bits_TrailingZeros64_R (a0 : Int) (y : Int) : Prop :=
  (br (a0 == 0) (64 = y) (req ((decide (0 ≤ (Int.fdiv (IntKind.wrap .u64 ((IntKind.wrap .u64 (BitVec.toNat (BitVec.ofInt (IntKind.bits .u64) a0 &&& BitVec.ofInt (IntKind.bits .u64) (IntKind.wrap .u64 (0 - a0))))) * 285870213051353865)) (2 ^ 58)))) && (decide ((Int.fdiv (IntKind.wrap .u64 ((IntKind.wrap .u64 (BitVec.toNat (BitVec.ofInt (IntKind.bits .u64) a0 &&& BitVec.ofInt (IntKind.bits .u64) (IntKind.wrap .u64 (0 - a0))))) * 285870213051353865)) (2 ^ 58)) < 64))) (req (Nat.blt (offN 0 (Int.fdiv (IntKind.wrap .u64 ((IntKind.wrap .u64 (BitVec.toNat (BitVec.ofInt (IntKind.bits .u64) a0 &&& BitVec.ofInt (IntKind.bits .u64) (IntKind.wrap .u64 (0 - a0))))) * 285870213051353865)) (2 ^ 58)) 1) (List.length dbL)) ((IntKind.wrap .i64 (List.getD dbL (offN 0 (Int.fdiv (IntKind.wrap .u64 ((IntKind.wrap .u64 (BitVec.toNat (BitVec.ofInt (IntKind.bits .u64) a0 &&& BitVec.ofInt (IntKind.bits .u64) (IntKind.wrap .u64 (0 - a0))))) * 285870213051353865)) (2 ^ 58)) 1) 0)) = y))))
theorem math_bits_TrailingZeros64_tree (a0 : Int) (y : Int) : acall math_bits_TrailingZeros64_cx okT lpT 60 (.fn 138 [] []) [(V.int .u64 a0)] [] (leafK (.int .i64) y) =
    (req true (req true (req true (br (a0 == 0) (req true (req true (64 = y))) (req true (req true (req true (req true (req true (req true (req ((decide (0 ≤ (Int.fdiv (IntKind.wrap .u64 ((IntKind.wrap .u64 (BitVec.toNat (BitVec.ofInt (IntKind.bits .u64) a0 &&& BitVec.ofInt (IntKind.bits .u64) (IntKind.wrap .u64 (0 - a0))))) * 285870213051353865)) (2 ^ 58)))) && (decide ((Int.fdiv (IntKind.wrap .u64 ((IntKind.wrap .u64 (BitVec.toNat (BitVec.ofInt (IntKind.bits .u64) a0 &&& BitVec.ofInt (IntKind.bits .u64) (IntKind.wrap .u64 (0 - a0))))) * 285870213051353865)) (2 ^ 58)) < 64))) (req (Nat.blt (offN 0 (Int.fdiv (IntKind.wrap .u64 ((IntKind.wrap .u64 (BitVec.toNat (BitVec.ofInt (IntKind.bits .u64) a0 &&& BitVec.ofInt (IntKind.bits .u64) (IntKind.wrap .u64 (0 - a0))))) * 285870213051353865)) (2 ^ 58)) 1) (List.length dbL)) (req true (req true (req true ((IntKind.wrap .i64 (List.getD dbL (offN 0 (Int.fdiv (IntKind.wrap .u64 ((IntKind.wrap .u64 (BitVec.toNat (BitVec.ofInt (IntKind.bits .u64) a0 &&& BitVec.ofInt (IntKind.bits .u64) (IntKind.wrap .u64 (0 - a0))))) * 285870213051353865)) (2 ^ 58)) 1) 0)) = y)))))))))))))))) := by kernel_rfl
theorem math_bits_TrailingZeros64_run (a0 : Int) (y : Int) (h : math_bits_TrailingZeros64_R a0 y) : acall math_bits_TrailingZeros64_cx okT lpT 60 (.fn 138 [] []) [(V.int .u64 a0)] [] (leafK (.int .i64) y) := by
  refine cast (math_bits_TrailingZeros64_tree a0 y).symm ?_
  unfold math_bits_TrailingZeros64_R at h
  iterate 3 refine req_intro rfl ?_
  refine br_both h (fun hb h => ?_) (fun hb h => ?_)
  · refine req_intro rfl ?_
    exact req_intro rfl h
  · iterate 6 refine req_intro rfl ?_
    obtain ⟨q, h⟩ := req_of h
    refine req_intro (band (band_l q) (band_r q)) ?_
    obtain ⟨q, h⟩ := req_of h
    refine req_intro q ?_
    iterate 2 refine req_intro rfl ?_
    exact req_intro rfl h
theorem math_bits_TrailingZeros64_ok : FxOk Tryd.prog gsT 138 (.one (.int .u64)) (.int .i64) fun x y => math_bits_TrailingZeros64_R x y := fx_of (c := math_bits_TrailingZeros64_cx) (ty_ok rfl) (eq_ok rfl) math_bits_TrailingZeros64_fns follows_ok (ok := okT) (lp := lpT) (n := 60) lp_ok (enters Tryd.func138 (by kernel_rfl) rfl) (fun y => ⟨_, rfl⟩) fun x y h => math_bits_TrailingZeros64_run _ y h
noncomputable def mask_All_cx : Cx := ⟨tyT, [(128, .body Tryd.f128),
  (132, .fx (.one (.int .u64)) (.int .i64) fun x y => mask_Count_R x y),
  (133, .body Tryd.f133),
  (137, .body Tryd.f137),
  (138, .fx (.one (.int .u64)) (.int .i64) fun x y => math_bits_TrailingZeros64_R x y)], gsT, eqT⟩
theorem mask_All_fns : FnsOk Tryd.prog mask_All_cx := Fns_assoc ⟨body_ent Tryd.func128 (by kernel_rfl) (by kernel_rfl), mask_Count_ok, body_ent Tryd.func133 (by kernel_rfl) (by kernel_rfl), body_ent Tryd.func137 (by kernel_rfl) (by kernel_rfl), math_bits_TrailingZeros64_ok, trivial⟩
noncomputable def mask_All_l0_body : Code := subC [0, 0] (bodyOf Tryd.f137)
abbrev mask_All_l0_Z : Type := List Int × Int
abbrev mask_All_l0_Y : Type := List Int × Int
abbrev mask_All_l0_C : Type := Nat
abbrev mask_All_l0_Q : Type := Unit
noncomputable def mask_All_l0_st (z2 : mask_All_l0_Z) (z2q : mask_All_l0_Q) (z2c : mask_All_l0_C) : S := ⟨[(0, (V.yld 4)), (1, (V.ptr 2 0))], [Blk.dead, (Blk.cells [(V.row 5 1 (List.length (z2.1)) z2c)]), (Blk.cells [(V.int .u64 (z2.2))]), Blk.dfr, (Blk.loop .ready none ⟨128, [10], (subC [1, 1, 0, 1, 0, 0] (bodyOf Tryd.f128)), (subC [1, 1, 0, 1, 0, 1] (bodyOf Tryd.f128)), [(3, (V.ptr 1 0))], 3⟩), (Blk.row (.int .i64) (z2.1) 3 z2c)], []⟩
def mask_All_l0_K (K : Ret → S → Prop) (z2 : mask_All_l0_Z) (z2q : mask_All_l0_Q) (y3 : mask_All_l0_Y) : Prop := (∀ y3c : Nat, K (.exit 0) ⟨[], [Blk.dead, (Blk.cells [(V.row 5 1 (List.length (y3.1)) y3c)]), (Blk.cells [(V.int .u64 (y3.2))]), Blk.dfr, (Blk.loop .ready none ⟨128, [10], (subC [1, 1, 0, 1, 0, 0] (bodyOf Tryd.f128)), (subC [1, 1, 0, 1, 0, 1] (bodyOf Tryd.f128)), [(3, (V.ptr 1 0))], 3⟩), (Blk.row (.int .i64) (y3.1) 3 y3c)], []⟩)
def mask_All_l0 : Nat → mask_All_l0_Z → mask_All_l0_Y → Prop
  | 0, _, _ => False
  | k + 1, z2, y3_ => (br ((z2.2) != 0) (∃ y4 : Int, (math_bits_TrailingZeros64_R (z2.2) y4) ∧ (req (Nat.ble ((List.length ((z2.1) ++ [y4])) * 9) 140737488355328) (mask_All_l0 k (((z2.1) ++ [y4]), (IntKind.wrap .u64 (BitVec.toNat (BitVec.ofInt (IntKind.bits .u64) (z2.2) &&& BitVec.ofInt (IntKind.bits .u64) (IntKind.wrap .u64 ((z2.2) - 1)))))) y3_))) (((z2.1), (z2.2)) = y3_))
def mask_All_l0_L (z : mask_All_l0_Z) (y : mask_All_l0_Y) : Prop := ∃ k, mask_All_l0 k z y
noncomputable def mask_All_l0_lp : Lp := .auto none mask_All_l0_body (loopG 5 mask_All_l0_st (fun z y => ∃ k, mask_All_l0 k z y) mask_All_l0_K)
noncomputable def mask_All_lp : Nat → FuncId → Nat → Nat → Lp := lpTab [(137, 0, 5, 1, mask_All_l0_lp)]
theorem mask_All_l0_round (n : Nat) (z2 : mask_All_l0_Z) (z2q : mask_All_l0_Q) (z2c : mask_All_l0_C) (K : Ret → S → Prop) (next : S → Prop) : acode mask_All_cx 137 (acall mask_All_cx okT mask_All_lp (n + 1)) kept (mask_All_lp (n + 1) 137) none mask_All_l0_body (iterK (wkK 5 K) next) (mask_All_l0_st z2 z2q z2c) =
    (req true (req true (br ((z2.2) != 0) (req true (req true (req true (∃ y4 : Int, (math_bits_TrailingZeros64_R (z2.2) y4) ∧ (req true (req true (req true (req true (req (((((true && true) && true) && (Nat.beq (List.length (z2.1)) (List.length (z2.1)))) && (Nat.beq z2c z2c)) && (Nat.ble ((List.length ((z2.1) ++ [y4])) * 9) 140737488355328)) (∀ c5 : Nat, (req true (req true (req true (req true (req true (next ⟨[(0, (V.yld 4)), (1, (V.ptr 2 0)), (3, (V.int .u64 (z2.2))), (4, (V.bool ((z2.2) != 0))), (9, (V.yld 4)), (10, (V.int .u64 (z2.2))), (11, (V.int .i64 y4)), (12, (V.bool true)), (13, (V.bool false)), (5, (V.int .u64 (z2.2))), (6, (V.int .u64 (z2.2))), (7, (V.int .u64 (IntKind.wrap .u64 ((z2.2) - 1)))), (8, (V.int .u64 (IntKind.wrap .u64 (BitVec.toNat (BitVec.ofInt (IntKind.bits .u64) (z2.2) &&& BitVec.ofInt (IntKind.bits .u64) (IntKind.wrap .u64 ((z2.2) - 1)))))))], [Blk.dead, (Blk.cells [(V.row 7 1 (List.length ((z2.1) ++ [y4])) c5)]), (Blk.cells [(V.int .u64 (IntKind.wrap .u64 (BitVec.toNat (BitVec.ofInt (IntKind.bits .u64) (z2.2) &&& BitVec.ofInt (IntKind.bits .u64) (IntKind.wrap .u64 ((z2.2) - 1))))))]), Blk.dfr, (Blk.loop .ready none ⟨128, [10], (subC [1, 1, 0, 1, 0, 0] (bodyOf Tryd.f128)), (subC [1, 1, 0, 1, 0, 1] (bodyOf Tryd.f128)), [(3, (V.ptr 1 0))], 3⟩), Blk.dead, (Blk.cells [(V.int .i64 y4)]), (Blk.row (.int .i64) ((z2.1) ++ [y4]) 3 c5)], []⟩)))))))))))))))) (wkK 5 K (.exit 0) ⟨[(0, (V.yld 4)), (1, (V.ptr 2 0)), (3, (V.int .u64 (z2.2))), (4, (V.bool ((z2.2) != 0)))], [Blk.dead, (Blk.cells [(V.row 5 1 (List.length (z2.1)) z2c)]), (Blk.cells [(V.int .u64 (z2.2))]), Blk.dfr, (Blk.loop .ready none ⟨128, [10], (subC [1, 1, 0, 1, 0, 0] (bodyOf Tryd.f128)), (subC [1, 1, 0, 1, 0, 1] (bodyOf Tryd.f128)), [(3, (V.ptr 1 0))], 3⟩), (Blk.row (.int .i64) (z2.1) 3 z2c)], []⟩)))) := by kernel_rfl
theorem mask_All_l0_ok (n : Nat) : Owed mask_All_cx 137 mask_All_lp (n + 1) mask_All_l0_lp := loop_owed (fun z y h => h) fun k z2 z2q z2c y3_ K h hK next hnext => by
  refine cast (mask_All_l0_round n z2 z2q z2c K next).symm ?_
  simp only [mask_All_l0] at h
  iterate 2 refine req_intro rfl ?_
  refine br_both h (fun hb h => ?_) (fun hb h => ?_)
  · iterate 3 refine req_intro rfl ?_
    obtain ⟨y4, ry4, h⟩ := h
    refine ⟨y4, ry4, ?_⟩
    iterate 4 refine req_intro rfl ?_
    obtain ⟨q, h⟩ := req_of h
    refine req_intro (band (band (band (band (band rfl rfl) rfl) (Nat.beq_refl _)) (Nat.beq_refl _)) q) ?_
    intro c5
    iterate 5 refine req_intro rfl ?_
    exact hnext (((z2.1) ++ [y4]), (IntKind.wrap .u64 (BitVec.toNat (BitVec.ofInt (IntKind.bits .u64) (z2.2) &&& BitVec.ofInt (IntKind.bits .u64) (IntKind.wrap .u64 ((z2.2) - 1)))))) _ h hK ⟨c5, ⟨_, ⟨[(0, (V.yld 4)), (1, (V.ptr 2 0))], [Blk.dead, (Blk.cells [(V.row 5 1 (List.length ((z2.1) ++ [y4])) c5)]), (Blk.cells [(V.int .u64 (IntKind.wrap .u64 (BitVec.toNat (BitVec.ofInt (IntKind.bits .u64) (z2.2) &&& BitVec.ofInt (IntKind.bits .u64) (IntKind.wrap .u64 ((z2.2) - 1))))))]), Blk.dfr, (Blk.loop .ready none ⟨128, [10], (subC [1, 1, 0, 1, 0, 0] (bodyOf Tryd.f128)), (subC [1, 1, 0, 1, 0, 1] (bodyOf Tryd.f128)), [(3, (V.ptr 1 0))], 3⟩), (Blk.row (.int .i64) ((z2.1) ++ [y4]) 3 c5)], []⟩, ⟨[], rfl, rfl⟩, Or.inr ⟨[0, 1, 2, 3, 4, 7], rfl, rfl, rfl, rfl, rfl, ⟨rfl, rfl, trivial⟩, ⟨Or.inl rfl, Or.inr rfl, Or.inr rfl, Or.inr rfl, Or.inr rfl, Or.inr rfl, trivial⟩, rfl, rfl⟩, Or.inr ⟨⟨Or.inl rfl, Or.inl rfl, trivial⟩, ⟨Or.inl rfl, Or.inl rfl, Or.inl rfl, Or.inl rfl, Or.inl rfl, Or.inl rfl, trivial⟩, rfl, rfl, rfl⟩⟩⟩
  · subst h
    refine ⟨_, ?_, hK z2c⟩
    exact wk_of (Or.inr ⟨trivial, ⟨Or.inl rfl, Or.inl rfl, Or.inl rfl, Or.inl rfl, Or.inl rfl, Or.inl rfl, trivial⟩, rfl, rfl, rfl⟩)
theorem mask_All_lpok : LpOk mask_All_cx okT mask_All_lp := LpOk_tab ⟨mask_All_l0_ok, trivial⟩
def mask_All_R (a0 : Int) (y : List Int) : Prop :=
  (∃ y1 : Int, (mask_Count_R a0 y1) ∧ (req (((decide (0 ≤ y1)) && (Nat.ble (8 * (Int.toNat y1)) 281474976710656)) && (Nat.ble (Int.toNat y1) 9223372036854775807)) (∃ y7 : mask_All_l0_Y, mask_All_l0_L ([], a0) y7 ∧ ((y7.1) = y))))
theorem mask_All_tree (a0 : Int) (y : List Int) : acall mask_All_cx okT mask_All_lp 60 (.fn 128 [] []) [(V.int .u64 a0)] [] (leafK (.nw (.int .i64) 3) y) =
    (req true (req true (req true (∃ y1 : Int, (mask_Count_R a0 y1) ∧ (req (((true && (decide (0 ≤ y1))) && (Nat.ble (8 * (Int.toNat y1)) 281474976710656)) && (Nat.ble (Int.toNat y1) 9223372036854775807)) (req true (req true (req true (req true (((none : Option Nat) = (none : Option Nat)) ∧ (mask_All_l0_body = mask_All_l0_body) ∧ ∃ z6 : mask_All_l0_Z, ∃ z6q : mask_All_l0_Q, ∃ y7 : mask_All_l0_Y, (5 = 5) ∧ (∃ zc : mask_All_l0_C, wk 5 ⟨[(0, (V.yld 4)), (1, (V.ptr 2 0))], [(Blk.row (.int .i64) [] 3 (Int.toNat y1)), (Blk.cells [(V.row 0 1 0 (Int.toNat y1))]), (Blk.cells [(V.int .u64 a0)]), Blk.dfr, (Blk.loop .ready none ⟨128, [10], (subC [1, 1, 0, 1, 0, 0] (bodyOf Tryd.f128)), (subC [1, 1, 0, 1, 0, 1] (bodyOf Tryd.f128)), [(0, (V.int .u64 a0)), (2, (V.old (.slice none 0 0))), (5, (V.int .u64 a0)), (6, (V.int .i64 y1)), (7, (V.row 0 1 0 (Int.toNat y1))), (3, (V.ptr 1 0)), (8, (V.int .u64 a0)), (9, (V.fn 137 [] [(V.ptr 2 0)]))], 3⟩)], []⟩ (mask_All_l0_st z6 z6q zc)) ∧ (∃ k, mask_All_l0 k z6 y7) ∧ (∀ y7c : Nat, (req true (req true (req ((Nat.beq (List.length (y7.1)) (List.length (y7.1))) && (Nat.beq y7c y7c)) ((y7.1) = y))))))))))))))) := by kernel_rfl
theorem mask_All_run (a0 : Int) (y : List Int) (h : mask_All_R a0 y) : acall mask_All_cx okT mask_All_lp 60 (.fn 128 [] []) [(V.int .u64 a0)] [] (leafK (.nw (.int .i64) 3) y) := by
  refine cast (mask_All_tree a0 y).symm ?_
  unfold mask_All_R at h
  iterate 3 refine req_intro rfl ?_
  obtain ⟨y1, ry1, h⟩ := h
  refine ⟨y1, ry1, ?_⟩
  obtain ⟨q, h⟩ := req_of h
  refine req_intro (band (band (band rfl (band_l (band_l q))) (band_r (band_l q))) (band_r q)) ?_
  iterate 4 refine req_intro rfl ?_
  obtain ⟨y7, ry7, h⟩ := h
  refine ⟨rfl, rfl, ([], a0), (), y7, rfl, ⟨(Int.toNat y1), ⟨_, ⟨[(0, (V.yld 4)), (1, (V.ptr 2 0))], [Blk.dead, (Blk.cells [(V.row 5 1 0 (Int.toNat y1))]), (Blk.cells [(V.int .u64 a0)]), Blk.dfr, (Blk.loop .ready none ⟨128, [10], (subC [1, 1, 0, 1, 0, 0] (bodyOf Tryd.f128)), (subC [1, 1, 0, 1, 0, 1] (bodyOf Tryd.f128)), [(0, (V.int .u64 a0)), (2, (V.old (.slice none 0 0))), (5, (V.int .u64 a0)), (6, (V.int .i64 y1)), (7, (V.row 5 1 0 (Int.toNat y1))), (3, (V.ptr 1 0)), (8, (V.int .u64 a0)), (9, (V.fn 137 [] [(V.ptr 2 0)]))], 3⟩), (Blk.row (.int .i64) [] 3 (Int.toNat y1))], []⟩, ⟨[], rfl, rfl⟩, Or.inr ⟨[0, 1, 2, 3, 4, 0], rfl, rfl, rfl, rfl, rfl, ⟨rfl, rfl, trivial⟩, ⟨Or.inl rfl, Or.inr rfl, Or.inr rfl, Or.inr rfl, Or.inr rfl, Or.inr rfl, trivial⟩, rfl, rfl⟩, Or.inr ⟨⟨Or.inl rfl, Or.inl rfl, trivial⟩, ⟨Or.inl rfl, Or.inr (Or.inr (Or.inr ⟨Or.inl rfl, trivial⟩)), Or.inl rfl, Or.inl rfl, Or.inr (Or.inr (Or.inr ⟨rfl, rfl, rfl, rfl, rfl, rfl, rfl, ⟨Or.inl rfl, trivial⟩⟩)), Or.inl rfl, trivial⟩, rfl, rfl, rfl⟩⟩⟩, ry7, ?_⟩
  intro y7c
  iterate 2 refine req_intro rfl ?_
  exact req_intro (band (Nat.beq_refl _) (Nat.beq_refl _)) h
theorem mask_All_ok : FxOk Tryd.prog gsT 128 (.one (.int .u64)) (.nw (.int .i64) 3) fun x y => mask_All_R x y := fx_of (c := mask_All_cx) (ty_ok rfl) (eq_ok rfl) mask_All_fns follows_ok (ok := okT) (lp := mask_All_lp) (n := 60) mask_All_lpok (enters Tryd.func128 (by kernel_rfl) rfl) (fun y => ⟨_, rfl⟩) fun x y h => mask_All_run _ y h
noncomputable def next_of_cx : Cx := ⟨tyT, [(40, .body Tryd.f40)], gsT, eqT⟩
theorem next_of_fns : FnsOk Tryd.prog next_of_cx := Fns_assoc ⟨body_ent Tryd.func40 (by kernel_rfl) (by kernel_rfl), trivial⟩
def next_of_R (a0 : Int) (y : Int) : Prop :=
  ((IntKind.wrap .i64 (Int.tdiv (if 253402300799 < (if 0 > a0 then 0 else a0) then 253402300799 else (if 0 > a0 then 0 else a0)) 86400)) = y)
theorem next_of_tree (a0 : Int) (y : Int) : acall next_of_cx okT lpT 60 (.fn 40 [] []) [(V.int .i64 a0)] [] (leafK (.int .i64) y) =
    (req true (req true (req true (req true (req true (req true (req true ((IntKind.wrap .i64 (Int.tdiv (if 253402300799 < (if 0 > a0 then 0 else a0) then 253402300799 else (if 0 > a0 then 0 else a0)) 86400)) = y)))))))) := by kernel_rfl
theorem next_of_run (a0 : Int) (y : Int) (h : next_of_R a0 y) : acall next_of_cx okT lpT 60 (.fn 40 [] []) [(V.int .i64 a0)] [] (leafK (.int .i64) y) := by
  refine cast (next_of_tree a0 y).symm ?_
  unfold next_of_R at h
  iterate 6 refine req_intro rfl ?_
  exact req_intro rfl h
theorem next_of_ok : FxOk Tryd.prog gsT 40 (.one (.int .i64)) (.int .i64) fun x y => next_of_R x y := fx_of (c := next_of_cx) (ty_ok rfl) (eq_ok rfl) next_of_fns follows_ok (ok := okT) (lp := lpT) (n := 60) lp_ok (enters Tryd.func40 (by kernel_rfl) rfl) (fun y => ⟨_, rfl⟩) fun x y h => next_of_run _ y h
noncomputable def next_Next_cx : Cx := ⟨tyT, [(17, .body Tryd.f17),
  (23, .fx (.one (.agg (.cons (.int .u64) (.cons (.int .u64) (.cons (.int .u64) (.cons (.int .u64) (.one (.int .u64)))))))) (.int .i64) fun x y => cron_Check_R (x.1) (x.2.1) (x.2.2.1) (x.2.2.2.1) (x.2.2.2.2) y),
  (39, .body Tryd.f39),
  (40, .fx (.one (.int .i64)) (.int .i64) fun x y => next_of_R x y),
  (41, .body Tryd.f41),
  (52, .fx (.cons (.agg (.cons (.int .u64) (.cons (.int .u64) (.cons (.int .u64) (.cons (.int .u64) (.one (.int .u64))))))) (.one (.agg (.cons (.int .i64) (.cons (.int .i64) (.one (.int .i64))))))) .bool fun x y => cron_Day_R (x.1.1) (x.1.2.1) (x.1.2.2.1) (x.1.2.2.2.1) (x.1.2.2.2.2) (x.2.1) (x.2.2.1) (x.2.2.2) y),
  (76, .body Tryd.f76),
  (77, .body Tryd.f77),
  (84, .fx (.one (.int .i64)) (.tup (.cons (.agg (.cons (.int .i64) (.cons (.int .i64) (.one (.int .i64))))) (.one (.int .i64)))) fun x y => days_At_R x y),
  (105, .body Tryd.f105),
  (106, .body Tryd.f106),
  (107, .body Tryd.f107),
  (127, .body Tryd.f127),
  (128, .fx (.one (.int .u64)) (.nw (.int .i64) 3) fun x y => mask_All_R x y)], gsT, eqT⟩
theorem next_Next_fns : FnsOk Tryd.prog next_Next_cx := Fns_assoc ⟨body_ent Tryd.func17 (by kernel_rfl) (by kernel_rfl), cron_Check_ok, body_ent Tryd.func39 (by kernel_rfl) (by kernel_rfl), next_of_ok, body_ent Tryd.func41 (by kernel_rfl) (by kernel_rfl), cron_Day_ok, body_ent Tryd.func76 (by kernel_rfl) (by kernel_rfl), body_ent Tryd.func77 (by kernel_rfl) (by kernel_rfl), days_At_ok, body_ent Tryd.func105 (by kernel_rfl) (by kernel_rfl), body_ent Tryd.func106 (by kernel_rfl) (by kernel_rfl), body_ent Tryd.func107 (by kernel_rfl) (by kernel_rfl), body_ent Tryd.func127 (by kernel_rfl) (by kernel_rfl), mask_All_ok, trivial⟩
noncomputable def next_Next_l0_body : Code := subC [1, 1, 0, 0] (bodyOf Tryd.f127)
abbrev next_Next_l0_Z : Type := List Int × List Int × Int × Int × Int × Int × Int × Int × Int × Int × Int × Int
abbrev next_Next_l0_Y : Type := (Int) ⊕ (Unit)
abbrev next_Next_l0_C : Type := Unit
abbrev next_Next_l0_Q : Type := Nat × Nat
noncomputable def next_Next_l0_st (z13 : next_Next_l0_Z) (z13q : next_Next_l0_Q) (z13c : next_Next_l0_C) : S := ⟨[(0, (V.yld 21)), (2, (V.ptr 20 0)), (4, (V.row 22 1 (List.length (z13.2.1)) (z13q.2))), (9, (V.int .i64 (z13.2.2.2.2.2.2.2.2.2.2.1))), (10, (V.int .i64 (z13.2.2.2.2.2.2.2.2.2.2.2)))], [(Blk.cells [(V.int .u64 (z13.2.2.1)), (V.int .u64 (z13.2.2.2.1)), (V.int .u64 (z13.2.2.2.2.1)), (V.int .u64 (z13.2.2.2.2.2.1)), (V.int .u64 (z13.2.2.2.2.2.2.1))]), (Blk.cells [(V.int .i64 (z13.2.2.2.2.2.2.2.1))]), (Blk.cells [(V.int .u64 (z13.2.2.1)), (V.int .u64 (z13.2.2.2.1)), (V.int .u64 (z13.2.2.2.2.1)), (V.int .u64 (z13.2.2.2.2.2.1)), (V.int .u64 (z13.2.2.2.2.2.2.1))]), (Blk.cells [(V.fn 41 [] [(V.ptr 1 0)])]), (Blk.cells [(V.int .i64 0)]), (Blk.cells [(V.bool false)]), (Blk.cells [(V.int .u64 (z13.2.2.1)), (V.int .u64 (z13.2.2.2.1)), (V.int .u64 (z13.2.2.2.2.1)), (V.int .u64 (z13.2.2.2.2.2.1)), (V.int .u64 (z13.2.2.2.2.2.2.1))]), (Blk.cells [(V.int .u64 (z13.2.2.1)), (V.int .u64 (z13.2.2.2.1)), (V.int .u64 (z13.2.2.2.2.1)), (V.int .u64 (z13.2.2.2.2.2.1)), (V.int .u64 (z13.2.2.2.2.2.2.1))]), (Blk.cells [(V.int .i64 (z13.2.2.2.2.2.2.2.2.1))]), (Blk.cells [(V.bool false)]), Blk.dfr, (Blk.loop .ready none ⟨39, [37], (subC [1, 0, 1, 1, 1, 0, 1, 0, 0, 1, 1, 0, 0, 1, 1, 1, 1, 1, 0, 0] (bodyOf Tryd.f39)), (subC [1, 0, 1, 1, 1, 0, 1, 0, 0, 1, 1, 0, 0, 1, 1, 1, 1, 1, 0, 1] (bodyOf Tryd.f39)), [(7, (V.ptr 3 0)), (8, (V.ptr 4 0)), (9, (V.ptr 5 0))], 10⟩), (Blk.cells [(V.yld 11)]), (Blk.cells [(V.int .u64 (z13.2.2.2.1))]), (Blk.cells [(V.bool false)]), Blk.dfr, (Blk.loop .busy none ⟨106, [11], (subC [1, 1, 0, 0] (bodyOf Tryd.f106)), (subC [1, 1, 0, 1] (bodyOf Tryd.f106)), [(1, (V.ptr 7 0)), (2, (V.ptr 9 0)), (3, (V.ptr 8 0)), (4, (V.ptr 12 0))], 15⟩), (Blk.row (.int .i64) (z13.1) 3 (z13q.1)), (Blk.cells [(V.int .i64 (z13.2.2.2.2.2.2.2.2.2.1))]), (Blk.cells [(V.int .u64 (z13.2.2.1))]), (Blk.cells [(V.bool false)]), (Blk.loop .ready none ⟨106, [16], (subC [1, 1, 0, 1, 0, 1, 0, 0] (bodyOf Tryd.f106)), (subC [1, 1, 0, 1, 0, 1, 0, 1] (bodyOf Tryd.f106)), [(3, (V.ptr 8 0)), (4, (V.ptr 12 0)), (5, (V.ptr 18 0))], 15⟩), (Blk.row (.int .i64) (z13.2.1) 3 (z13q.2))], []⟩
def next_Next_l0_K (K : Ret → S → Prop) (z13 : next_Next_l0_Z) (z13q : next_Next_l0_Q) (y14 : next_Next_l0_Y) : Prop := sume (fun y14 => K .ret ⟨[], [(Blk.cells [(V.int .u64 (z13.2.2.1)), (V.int .u64 (z13.2.2.2.1)), (V.int .u64 (z13.2.2.2.2.1)), (V.int .u64 (z13.2.2.2.2.2.1)), (V.int .u64 (z13.2.2.2.2.2.2.1))]), (Blk.cells [(V.int .i64 (z13.2.2.2.2.2.2.2.1))]), (Blk.cells [(V.int .u64 (z13.2.2.1)), (V.int .u64 (z13.2.2.2.1)), (V.int .u64 (z13.2.2.2.2.1)), (V.int .u64 (z13.2.2.2.2.2.1)), (V.int .u64 (z13.2.2.2.2.2.2.1))]), (Blk.cells [(V.fn 41 [] [(V.ptr 1 0)])]), (Blk.cells [(V.int .i64 y14)]), (Blk.cells [(V.bool true)]), (Blk.cells [(V.int .u64 (z13.2.2.1)), (V.int .u64 (z13.2.2.2.1)), (V.int .u64 (z13.2.2.2.2.1)), (V.int .u64 (z13.2.2.2.2.2.1)), (V.int .u64 (z13.2.2.2.2.2.2.1))]), (Blk.cells [(V.int .u64 (z13.2.2.1)), (V.int .u64 (z13.2.2.2.1)), (V.int .u64 (z13.2.2.2.2.1)), (V.int .u64 (z13.2.2.2.2.2.1)), (V.int .u64 (z13.2.2.2.2.2.2.1))]), (Blk.cells [(V.int .i64 (z13.2.2.2.2.2.2.2.2.1))]), (Blk.cells [(V.bool false)]), Blk.dfr, (Blk.loop .done (some (.exit 0)) ⟨39, [37], (subC [1, 0, 1, 1, 1, 0, 1, 0, 0, 1, 1, 0, 0, 1, 1, 1, 1, 1, 0, 0] (bodyOf Tryd.f39)), (subC [1, 0, 1, 1, 1, 0, 1, 0, 0, 1, 1, 0, 0, 1, 1, 1, 1, 1, 0, 1] (bodyOf Tryd.f39)), [(7, (V.ptr 3 0)), (8, (V.ptr 4 0)), (9, (V.ptr 5 0))], 10⟩), (Blk.cells [(V.yld 11)]), (Blk.cells [(V.int .u64 (z13.2.2.2.1))]), (Blk.cells [(V.bool false)]), Blk.dfr, (Blk.loop .busy none ⟨106, [11], (subC [1, 1, 0, 0] (bodyOf Tryd.f106)), (subC [1, 1, 0, 1] (bodyOf Tryd.f106)), [(1, (V.ptr 7 0)), (2, (V.ptr 9 0)), (3, (V.ptr 8 0)), (4, (V.ptr 12 0))], 15⟩), (Blk.row (.int .i64) (z13.1) 3 (z13q.1)), (Blk.cells [(V.int .i64 (z13.2.2.2.2.2.2.2.2.2.1))]), (Blk.cells [(V.int .u64 (z13.2.2.1))]), (Blk.cells [(V.bool false)]), (Blk.loop .done (some .ret) ⟨106, [16], (subC [1, 1, 0, 1, 0, 1, 0, 0] (bodyOf Tryd.f106)), (subC [1, 1, 0, 1, 0, 1, 0, 1] (bodyOf Tryd.f106)), [(3, (V.ptr 8 0)), (4, (V.ptr 12 0)), (5, (V.ptr 18 0))], 15⟩), (Blk.row (.int .i64) (z13.2.1) 3 (z13q.2))], []⟩) (fun y14 => K (.exit 0) ⟨[], [(Blk.cells [(V.int .u64 (z13.2.2.1)), (V.int .u64 (z13.2.2.2.1)), (V.int .u64 (z13.2.2.2.2.1)), (V.int .u64 (z13.2.2.2.2.2.1)), (V.int .u64 (z13.2.2.2.2.2.2.1))]), (Blk.cells [(V.int .i64 (z13.2.2.2.2.2.2.2.1))]), (Blk.cells [(V.int .u64 (z13.2.2.1)), (V.int .u64 (z13.2.2.2.1)), (V.int .u64 (z13.2.2.2.2.1)), (V.int .u64 (z13.2.2.2.2.2.1)), (V.int .u64 (z13.2.2.2.2.2.2.1))]), (Blk.cells [(V.fn 41 [] [(V.ptr 1 0)])]), (Blk.cells [(V.int .i64 0)]), (Blk.cells [(V.bool false)]), (Blk.cells [(V.int .u64 (z13.2.2.1)), (V.int .u64 (z13.2.2.2.1)), (V.int .u64 (z13.2.2.2.2.1)), (V.int .u64 (z13.2.2.2.2.2.1)), (V.int .u64 (z13.2.2.2.2.2.2.1))]), (Blk.cells [(V.int .u64 (z13.2.2.1)), (V.int .u64 (z13.2.2.2.1)), (V.int .u64 (z13.2.2.2.2.1)), (V.int .u64 (z13.2.2.2.2.2.1)), (V.int .u64 (z13.2.2.2.2.2.2.1))]), (Blk.cells [(V.int .i64 (z13.2.2.2.2.2.2.2.2.1))]), (Blk.cells [(V.bool false)]), Blk.dfr, (Blk.loop .ready none ⟨39, [37], (subC [1, 0, 1, 1, 1, 0, 1, 0, 0, 1, 1, 0, 0, 1, 1, 1, 1, 1, 0, 0] (bodyOf Tryd.f39)), (subC [1, 0, 1, 1, 1, 0, 1, 0, 0, 1, 1, 0, 0, 1, 1, 1, 1, 1, 0, 1] (bodyOf Tryd.f39)), [(7, (V.ptr 3 0)), (8, (V.ptr 4 0)), (9, (V.ptr 5 0))], 10⟩), (Blk.cells [(V.yld 11)]), (Blk.cells [(V.int .u64 (z13.2.2.2.1))]), (Blk.cells [(V.bool false)]), Blk.dfr, (Blk.loop .busy none ⟨106, [11], (subC [1, 1, 0, 0] (bodyOf Tryd.f106)), (subC [1, 1, 0, 1] (bodyOf Tryd.f106)), [(1, (V.ptr 7 0)), (2, (V.ptr 9 0)), (3, (V.ptr 8 0)), (4, (V.ptr 12 0))], 15⟩), (Blk.row (.int .i64) (z13.1) 3 (z13q.1)), (Blk.cells [(V.int .i64 (z13.2.2.2.2.2.2.2.2.2.1))]), (Blk.cells [(V.int .u64 (z13.2.2.1))]), (Blk.cells [(V.bool false)]), (Blk.loop .ready none ⟨106, [16], (subC [1, 1, 0, 1, 0, 1, 0, 0] (bodyOf Tryd.f106)), (subC [1, 1, 0, 1, 0, 1, 0, 1] (bodyOf Tryd.f106)), [(3, (V.ptr 8 0)), (4, (V.ptr 12 0)), (5, (V.ptr 18 0))], 15⟩), (Blk.row (.int .i64) (z13.2.1) 3 (z13q.2))], []⟩) y14
def next_Next_l0 : Nat → next_Next_l0_Z → next_Next_l0_Y → Prop
  | 0, _, _ => False
  | k + 1, z13, y14_ => (br (decide ((z13.2.2.2.2.2.2.2.2.2.2.2) < (z13.2.2.2.2.2.2.2.2.2.2.1))) (req ((decide (0 ≤ (z13.2.2.2.2.2.2.2.2.2.2.2))) && (decide ((z13.2.2.2.2.2.2.2.2.2.2.2) < (((List.length (z13.2.1)) : Nat) : Int)))) (req (Nat.blt (Int.toNat (z13.2.2.2.2.2.2.2.2.2.2.2)) (List.length (z13.2.1))) (br (decide ((IntKind.wrap .i64 ((IntKind.wrap .i64 ((IntKind.wrap .i64 ((z13.2.2.2.2.2.2.2.2.1) * 86400)) + (IntKind.wrap .i64 ((z13.2.2.2.2.2.2.2.2.2.1) * 3600)))) + (IntKind.wrap .i64 ((List.getD (z13.2.1) (Int.toNat (z13.2.2.2.2.2.2.2.2.2.2.2)) 0) * 60)))) > (z13.2.2.2.2.2.2.2.1))) ((Sum.inl (IntKind.wrap .i64 ((IntKind.wrap .i64 ((IntKind.wrap .i64 ((z13.2.2.2.2.2.2.2.2.1) * 86400)) + (IntKind.wrap .i64 ((z13.2.2.2.2.2.2.2.2.2.1) * 3600)))) + (IntKind.wrap .i64 ((List.getD (z13.2.1) (Int.toNat (z13.2.2.2.2.2.2.2.2.2.2.2)) 0) * 60))))) = y14_) (next_Next_l0 k ((z13.1), (z13.2.1), (z13.2.2.1), (z13.2.2.2.1), (z13.2.2.2.2.1), (z13.2.2.2.2.2.1), (z13.2.2.2.2.2.2.1), (z13.2.2.2.2.2.2.2.1), (z13.2.2.2.2.2.2.2.2.1), (z13.2.2.2.2.2.2.2.2.2.1), (z13.2.2.2.2.2.2.2.2.2.2.1), (IntKind.wrap .i64 ((z13.2.2.2.2.2.2.2.2.2.2.2) + 1))) y14_)))) ((Sum.inr ()) = y14_))
def next_Next_l0_L (z : next_Next_l0_Z) (y : next_Next_l0_Y) : Prop := ∃ k, next_Next_l0 k z y
noncomputable def next_Next_l0_lp : Lp := .auto none next_Next_l0_body (loopG 23 next_Next_l0_st (fun z y => ∃ k, next_Next_l0 k z y) next_Next_l0_K)
noncomputable def next_Next_l1_body : Code := subC [1, 1, 0, 0] (bodyOf Tryd.f127)
abbrev next_Next_l1_Z : Type := List Int × Int × Int × Int × Int × Int × Int × Int × Int × Int
abbrev next_Next_l1_Y : Type := (Int) ⊕ (Unit)
abbrev next_Next_l1_C : Type := Unit
abbrev next_Next_l1_Q : Type := Nat
noncomputable def next_Next_l1_st (z9 : next_Next_l1_Z) (z9q : next_Next_l1_Q) (z9c : next_Next_l1_C) : S := ⟨[(0, (V.yld 16)), (2, (V.ptr 14 0)), (4, (V.row 17 1 (List.length (z9.1)) z9q)), (9, (V.int .i64 (z9.2.2.2.2.2.2.2.2.1))), (10, (V.int .i64 (z9.2.2.2.2.2.2.2.2.2)))], [(Blk.cells [(V.int .u64 (z9.2.1)), (V.int .u64 (z9.2.2.1)), (V.int .u64 (z9.2.2.2.1)), (V.int .u64 (z9.2.2.2.2.1)), (V.int .u64 (z9.2.2.2.2.2.1))]), (Blk.cells [(V.int .i64 (z9.2.2.2.2.2.2.1))]), (Blk.cells [(V.int .u64 (z9.2.1)), (V.int .u64 (z9.2.2.1)), (V.int .u64 (z9.2.2.2.1)), (V.int .u64 (z9.2.2.2.2.1)), (V.int .u64 (z9.2.2.2.2.2.1))]), (Blk.cells [(V.fn 41 [] [(V.ptr 1 0)])]), (Blk.cells [(V.int .i64 0)]), (Blk.cells [(V.bool false)]), (Blk.cells [(V.int .u64 (z9.2.1)), (V.int .u64 (z9.2.2.1)), (V.int .u64 (z9.2.2.2.1)), (V.int .u64 (z9.2.2.2.2.1)), (V.int .u64 (z9.2.2.2.2.2.1))]), (Blk.cells [(V.int .u64 (z9.2.1)), (V.int .u64 (z9.2.2.1)), (V.int .u64 (z9.2.2.2.1)), (V.int .u64 (z9.2.2.2.2.1)), (V.int .u64 (z9.2.2.2.2.2.1))]), (Blk.cells [(V.int .i64 (z9.2.2.2.2.2.2.2.1))]), (Blk.cells [(V.bool false)]), Blk.dfr, (Blk.loop .ready none ⟨39, [37], (subC [1, 0, 1, 1, 1, 0, 1, 0, 0, 1, 1, 0, 0, 1, 1, 1, 1, 1, 0, 0] (bodyOf Tryd.f39)), (subC [1, 0, 1, 1, 1, 0, 1, 0, 0, 1, 1, 0, 0, 1, 1, 1, 1, 1, 0, 1] (bodyOf Tryd.f39)), [(7, (V.ptr 3 0)), (8, (V.ptr 4 0)), (9, (V.ptr 5 0))], 10⟩), (Blk.cells [(V.yld 11)]), (Blk.cells [(V.int .u64 (z9.2.2.1))]), (Blk.cells [(V.bool false)]), Blk.dfr, (Blk.loop .ready none ⟨106, [11], (subC [1, 1, 0, 0] (bodyOf Tryd.f106)), (subC [1, 1, 0, 1] (bodyOf Tryd.f106)), [(1, (V.ptr 7 0)), (2, (V.ptr 9 0)), (3, (V.ptr 8 0)), (4, (V.ptr 12 0))], 15⟩), (Blk.row (.int .i64) (z9.1) 3 z9q)], []⟩
def next_Next_l1_K (K : Ret → S → Prop) (z9 : next_Next_l1_Z) (z9q : next_Next_l1_Q) (y10 : next_Next_l1_Y) : Prop := sume (fun y10 => K .ret ⟨[], [(Blk.cells [(V.int .u64 (z9.2.1)), (V.int .u64 (z9.2.2.1)), (V.int .u64 (z9.2.2.2.1)), (V.int .u64 (z9.2.2.2.2.1)), (V.int .u64 (z9.2.2.2.2.2.1))]), (Blk.cells [(V.int .i64 (z9.2.2.2.2.2.2.1))]), (Blk.cells [(V.int .u64 (z9.2.1)), (V.int .u64 (z9.2.2.1)), (V.int .u64 (z9.2.2.2.1)), (V.int .u64 (z9.2.2.2.2.1)), (V.int .u64 (z9.2.2.2.2.2.1))]), (Blk.cells [(V.fn 41 [] [(V.ptr 1 0)])]), (Blk.cells [(V.int .i64 y10)]), (Blk.cells [(V.bool true)]), (Blk.cells [(V.int .u64 (z9.2.1)), (V.int .u64 (z9.2.2.1)), (V.int .u64 (z9.2.2.2.1)), (V.int .u64 (z9.2.2.2.2.1)), (V.int .u64 (z9.2.2.2.2.2.1))]), (Blk.cells [(V.int .u64 (z9.2.1)), (V.int .u64 (z9.2.2.1)), (V.int .u64 (z9.2.2.2.1)), (V.int .u64 (z9.2.2.2.2.1)), (V.int .u64 (z9.2.2.2.2.2.1))]), (Blk.cells [(V.int .i64 (z9.2.2.2.2.2.2.2.1))]), (Blk.cells [(V.bool false)]), Blk.dfr, (Blk.loop .done (some (.exit 0)) ⟨39, [37], (subC [1, 0, 1, 1, 1, 0, 1, 0, 0, 1, 1, 0, 0, 1, 1, 1, 1, 1, 0, 0] (bodyOf Tryd.f39)), (subC [1, 0, 1, 1, 1, 0, 1, 0, 0, 1, 1, 0, 0, 1, 1, 1, 1, 1, 0, 1] (bodyOf Tryd.f39)), [(7, (V.ptr 3 0)), (8, (V.ptr 4 0)), (9, (V.ptr 5 0))], 10⟩), (Blk.cells [(V.yld 11)]), (Blk.cells [(V.int .u64 (z9.2.2.1))]), (Blk.cells [(V.bool false)]), Blk.dfr, (Blk.loop .done (some .ret) ⟨106, [11], (subC [1, 1, 0, 0] (bodyOf Tryd.f106)), (subC [1, 1, 0, 1] (bodyOf Tryd.f106)), [(1, (V.ptr 7 0)), (2, (V.ptr 9 0)), (3, (V.ptr 8 0)), (4, (V.ptr 12 0))], 15⟩), (Blk.row (.int .i64) (z9.1) 3 z9q)], []⟩) (fun y10 => K (.exit 0) ⟨[], [(Blk.cells [(V.int .u64 (z9.2.1)), (V.int .u64 (z9.2.2.1)), (V.int .u64 (z9.2.2.2.1)), (V.int .u64 (z9.2.2.2.2.1)), (V.int .u64 (z9.2.2.2.2.2.1))]), (Blk.cells [(V.int .i64 (z9.2.2.2.2.2.2.1))]), (Blk.cells [(V.int .u64 (z9.2.1)), (V.int .u64 (z9.2.2.1)), (V.int .u64 (z9.2.2.2.1)), (V.int .u64 (z9.2.2.2.2.1)), (V.int .u64 (z9.2.2.2.2.2.1))]), (Blk.cells [(V.fn 41 [] [(V.ptr 1 0)])]), (Blk.cells [(V.int .i64 0)]), (Blk.cells [(V.bool false)]), (Blk.cells [(V.int .u64 (z9.2.1)), (V.int .u64 (z9.2.2.1)), (V.int .u64 (z9.2.2.2.1)), (V.int .u64 (z9.2.2.2.2.1)), (V.int .u64 (z9.2.2.2.2.2.1))]), (Blk.cells [(V.int .u64 (z9.2.1)), (V.int .u64 (z9.2.2.1)), (V.int .u64 (z9.2.2.2.1)), (V.int .u64 (z9.2.2.2.2.1)), (V.int .u64 (z9.2.2.2.2.2.1))]), (Blk.cells [(V.int .i64 (z9.2.2.2.2.2.2.2.1))]), (Blk.cells [(V.bool false)]), Blk.dfr, (Blk.loop .ready none ⟨39, [37], (subC [1, 0, 1, 1, 1, 0, 1, 0, 0, 1, 1, 0, 0, 1, 1, 1, 1, 1, 0, 0] (bodyOf Tryd.f39)), (subC [1, 0, 1, 1, 1, 0, 1, 0, 0, 1, 1, 0, 0, 1, 1, 1, 1, 1, 0, 1] (bodyOf Tryd.f39)), [(7, (V.ptr 3 0)), (8, (V.ptr 4 0)), (9, (V.ptr 5 0))], 10⟩), (Blk.cells [(V.yld 11)]), (Blk.cells [(V.int .u64 (z9.2.2.1))]), (Blk.cells [(V.bool false)]), Blk.dfr, (Blk.loop .ready none ⟨106, [11], (subC [1, 1, 0, 0] (bodyOf Tryd.f106)), (subC [1, 1, 0, 1] (bodyOf Tryd.f106)), [(1, (V.ptr 7 0)), (2, (V.ptr 9 0)), (3, (V.ptr 8 0)), (4, (V.ptr 12 0))], 15⟩), (Blk.row (.int .i64) (z9.1) 3 z9q)], []⟩) y10
def next_Next_l1 : Nat → next_Next_l1_Z → next_Next_l1_Y → Prop
  | 0, _, _ => False
  | k + 1, z9, y10_ => (br (decide ((z9.2.2.2.2.2.2.2.2.2) < (z9.2.2.2.2.2.2.2.2.1))) (req ((decide (0 ≤ (z9.2.2.2.2.2.2.2.2.2))) && (decide ((z9.2.2.2.2.2.2.2.2.2) < (((List.length (z9.1)) : Nat) : Int)))) (req (Nat.blt (Int.toNat (z9.2.2.2.2.2.2.2.2.2)) (List.length (z9.1))) (∃ y11 : List Int, (mask_All_R (z9.2.1) y11) ∧ (∃ y16 : next_Next_l0_Y, next_Next_l0_L ((z9.1), y11, (z9.2.1), (z9.2.2.1), (z9.2.2.2.1), (z9.2.2.2.2.1), (z9.2.2.2.2.2.1), (z9.2.2.2.2.2.2.1), (z9.2.2.2.2.2.2.2.1), (List.getD (z9.1) (Int.toNat (z9.2.2.2.2.2.2.2.2.2)) 0), (((List.length y11) : Nat) : Int), 0) y16 ∧ sume (fun y16 => ((Sum.inl y16) = y10_)) (fun y16 => (next_Next_l1 k ((z9.1), (z9.2.1), (z9.2.2.1), (z9.2.2.2.1), (z9.2.2.2.2.1), (z9.2.2.2.2.2.1), (z9.2.2.2.2.2.2.1), (z9.2.2.2.2.2.2.2.1), (z9.2.2.2.2.2.2.2.2.1), (IntKind.wrap .i64 ((z9.2.2.2.2.2.2.2.2.2) + 1))) y10_)) y16)))) ((Sum.inr ()) = y10_))
def next_Next_l1_L (z : next_Next_l1_Z) (y : next_Next_l1_Y) : Prop := ∃ k, next_Next_l1 k z y
noncomputable def next_Next_l1_lp : Lp := .auto none next_Next_l1_body (loopG 18 next_Next_l1_st (fun z y => ∃ k, next_Next_l1 k z y) next_Next_l1_K)
noncomputable def next_Next_l2_body : Code := subC [1, 0, 1, 1, 1, 0, 1, 0, 0] (bodyOf Tryd.f39)
abbrev next_Next_l2_Z : Type := Int × Int × Int × Int × Int × Int × Int × Int
abbrev next_Next_l2_Y : Type := Int × Bool
abbrev next_Next_l2_C : Type := Unit
abbrev next_Next_l2_Q : Type := Unit
noncomputable def next_Next_l2_st (z3 : next_Next_l2_Z) (z3q : next_Next_l2_Q) (z3c : next_Next_l2_C) : S := ⟨[(1, (V.int .i64 (z3.2.2.2.2.2.2.1))), (2, (V.bool false)), (4, (V.ptr 2 0)), (7, (V.ptr 3 0)), (8, (V.ptr 4 0)), (9, (V.ptr 5 0)), (10, (V.fn 105 [] [(V.ptr 6 0)])), (19, (V.int .i64 (z3.2.2.2.2.2.2.2)))], [(Blk.cells [(V.int .u64 (z3.1)), (V.int .u64 (z3.2.1)), (V.int .u64 (z3.2.2.1)), (V.int .u64 (z3.2.2.2.1)), (V.int .u64 (z3.2.2.2.2.1))]), (Blk.cells [(V.int .i64 (z3.2.2.2.2.2.1))]), (Blk.cells [(V.int .u64 (z3.1)), (V.int .u64 (z3.2.1)), (V.int .u64 (z3.2.2.1)), (V.int .u64 (z3.2.2.2.1)), (V.int .u64 (z3.2.2.2.2.1))]), (Blk.cells [(V.fn 41 [] [(V.ptr 1 0)])]), (Blk.cells [(V.int .i64 0)]), (Blk.cells [(V.bool false)]), (Blk.cells [(V.int .u64 (z3.1)), (V.int .u64 (z3.2.1)), (V.int .u64 (z3.2.2.1)), (V.int .u64 (z3.2.2.2.1)), (V.int .u64 (z3.2.2.2.2.1))])], []⟩
def next_Next_l2_K (K : Ret → S → Prop) (z3 : next_Next_l2_Z) (z3q : next_Next_l2_Q) (y4 : next_Next_l2_Y) : Prop := K (.exit 0) ⟨[(8, (V.ptr 4 0)), (9, (V.ptr 5 0))], [(Blk.cells [(V.int .u64 (z3.1)), (V.int .u64 (z3.2.1)), (V.int .u64 (z3.2.2.1)), (V.int .u64 (z3.2.2.2.1)), (V.int .u64 (z3.2.2.2.2.1))]), (Blk.cells [(V.int .i64 (z3.2.2.2.2.2.1))]), (Blk.cells [(V.int .u64 (z3.1)), (V.int .u64 (z3.2.1)), (V.int .u64 (z3.2.2.1)), (V.int .u64 (z3.2.2.2.1)), (V.int .u64 (z3.2.2.2.2.1))]), (Blk.cells [(V.fn 41 [] [(V.ptr 1 0)])]), (Blk.cells [(V.int .i64 (y4.1))]), (Blk.cells [(V.bool (y4.2))]), (Blk.cells [(V.int .u64 (z3.1)), (V.int .u64 (z3.2.1)), (V.int .u64 (z3.2.2.1)), (V.int .u64 (z3.2.2.2.1)), (V.int .u64 (z3.2.2.2.2.1))]), Blk.dead, Blk.dead, Blk.dead, Blk.dead, Blk.dead], []⟩
def next_Next_l2 : Nat → next_Next_l2_Z → next_Next_l2_Y → Prop
  | 0, _, _ => False
  | k + 1, z3, y4_ => (br (decide ((z3.2.2.2.2.2.2.2) < 2923)) (∃ y5 : (Int × Int × Int) × Int, (days_At_R (IntKind.wrap .i64 ((z3.2.2.2.2.2.2.1) + (z3.2.2.2.2.2.2.2))) y5) ∧ (br ((y5.2) == 0) (∃ y6 : Bool, (cron_Day_R (z3.1) (z3.2.1) (z3.2.2.1) (z3.2.2.2.1) (z3.2.2.2.2.1) ((y5.1).1) (((y5.1).2).1) (((y5.1).2).2) y6) ∧ (br (!y6) (next_Next_l2 k ((z3.1), (z3.2.1), (z3.2.2.1), (z3.2.2.2.1), (z3.2.2.2.2.1), (z3.2.2.2.2.2.1), (z3.2.2.2.2.2.2.1), (IntKind.wrap .i64 ((z3.2.2.2.2.2.2.2) + 1))) y4_) (∃ y7 : List Int, (mask_All_R (z3.2.1) y7) ∧ (∃ y18 : next_Next_l1_Y, next_Next_l1_L (y7, (z3.1), (z3.2.1), (z3.2.2.1), (z3.2.2.2.1), (z3.2.2.2.2.1), (z3.2.2.2.2.2.1), (IntKind.wrap .i64 ((z3.2.2.2.2.2.2.1) + (z3.2.2.2.2.2.2.2))), (((List.length y7) : Nat) : Int), 0) y18 ∧ sume (fun y18 => ((y18, true) = y4_)) (fun y18 => (next_Next_l2 k ((z3.1), (z3.2.1), (z3.2.2.1), (z3.2.2.2.1), (z3.2.2.2.2.1), (z3.2.2.2.2.2.1), (z3.2.2.2.2.2.2.1), (IntKind.wrap .i64 ((z3.2.2.2.2.2.2.2) + 1))) y4_)) y18)))) (next_Next_l2 k ((z3.1), (z3.2.1), (z3.2.2.1), (z3.2.2.2.1), (z3.2.2.2.2.1), (z3.2.2.2.2.2.1), (z3.2.2.2.2.2.2.1), (IntKind.wrap .i64 ((z3.2.2.2.2.2.2.2) + 1))) y4_))) ((0, false) = y4_))
def next_Next_l2_L (z : next_Next_l2_Z) (y : next_Next_l2_Y) : Prop := ∃ k, next_Next_l2 k z y
noncomputable def next_Next_l2_lp : Lp := .auto none next_Next_l2_body (loopG 7 next_Next_l2_st (fun z y => ∃ k, next_Next_l2 k z y) next_Next_l2_K)
noncomputable def next_Next_lp : Nat → FuncId → Nat → Nat → Lp := lpTab [(127, 2, 23, 3, next_Next_l0_lp), (127, 2, 18, 5, next_Next_l1_lp), (39, 5, 7, 7, next_Next_l2_lp)]
theorem next_Next_l0_round (n : Nat) (z13 : next_Next_l0_Z) (z13q : next_Next_l0_Q) (z13c : next_Next_l0_C) (K : Ret → S → Prop) (next : S → Prop) : acode next_Next_cx 127 (acall next_Next_cx okT next_Next_lp (n + 3)) kept (next_Next_lp (n + 3) 127) none next_Next_l0_body (iterK (wkK 23 K) next) (next_Next_l0_st z13 z13q z13c) =
    (req true (br (decide ((z13.2.2.2.2.2.2.2.2.2.2.2) < (z13.2.2.2.2.2.2.2.2.2.2.1))) (req true (req true (req true (req true (req true (req true (req ((decide (0 ≤ (z13.2.2.2.2.2.2.2.2.2.2.2))) && (decide ((z13.2.2.2.2.2.2.2.2.2.2.2) < (((List.length (z13.2.1)) : Nat) : Int)))) (req (Nat.blt (Int.toNat (z13.2.2.2.2.2.2.2.2.2.2.2)) (List.length (z13.2.1))) (req true (req true (req true (req true (req true (req true (req true (req true (req true (req true (req true (req true (req true (req true (req true (req true (req true (req true (req true (req true (br (decide ((IntKind.wrap .i64 ((IntKind.wrap .i64 ((IntKind.wrap .i64 ((z13.2.2.2.2.2.2.2.2.1) * 86400)) + (IntKind.wrap .i64 ((z13.2.2.2.2.2.2.2.2.2.1) * 3600)))) + (IntKind.wrap .i64 ((List.getD (z13.2.1) (Int.toNat (z13.2.2.2.2.2.2.2.2.2.2.2)) 0) * 60)))) > (z13.2.2.2.2.2.2.2.1))) (req true (req true (req true (wkK 23 K .ret ⟨[(0, (V.yld 21)), (2, (V.ptr 20 0)), (4, (V.row 22 1 (List.length (z13.2.1)) (z13q.2))), (9, (V.int .i64 (z13.2.2.2.2.2.2.2.2.2.2.1))), (10, (V.int .i64 (z13.2.2.2.2.2.2.2.2.2.2.2))), (11, (V.bool (decide ((z13.2.2.2.2.2.2.2.2.2.2.2) < (z13.2.2.2.2.2.2.2.2.2.2.1))))), (12, (V.int .i64 (z13.2.2.2.2.2.2.2.2.2.2.2))), (5, (V.int .i64 (z13.2.2.2.2.2.2.2.2.2.2.2))), (13, (V.bool false)), (19, (V.yld 21)), (20, (V.row 22 1 (List.length (z13.2.1)) (z13q.2))), (21, (V.int .i64 (z13.2.2.2.2.2.2.2.2.2.2.2))), (22, (V.rp 22 1 (Int.toNat (z13.2.2.2.2.2.2.2.2.2.2.2)) 0)), (23, (V.int .i64 (List.getD (z13.2.1) (Int.toNat (z13.2.2.2.2.2.2.2.2.2.2.2)) 0))), (24, (V.bool false)), (25, (V.bool true))], [(Blk.cells [(V.int .u64 (z13.2.2.1)), (V.int .u64 (z13.2.2.2.1)), (V.int .u64 (z13.2.2.2.2.1)), (V.int .u64 (z13.2.2.2.2.2.1)), (V.int .u64 (z13.2.2.2.2.2.2.1))]), (Blk.cells [(V.int .i64 (z13.2.2.2.2.2.2.2.1))]), (Blk.cells [(V.int .u64 (z13.2.2.1)), (V.int .u64 (z13.2.2.2.1)), (V.int .u64 (z13.2.2.2.2.1)), (V.int .u64 (z13.2.2.2.2.2.1)), (V.int .u64 (z13.2.2.2.2.2.2.1))]), (Blk.cells [(V.fn 41 [] [(V.ptr 1 0)])]), (Blk.cells [(V.int .i64 (IntKind.wrap .i64 ((IntKind.wrap .i64 ((IntKind.wrap .i64 ((z13.2.2.2.2.2.2.2.2.1) * 86400)) + (IntKind.wrap .i64 ((z13.2.2.2.2.2.2.2.2.2.1) * 3600)))) + (IntKind.wrap .i64 ((List.getD (z13.2.1) (Int.toNat (z13.2.2.2.2.2.2.2.2.2.2.2)) 0) * 60)))))]), (Blk.cells [(V.bool true)]), (Blk.cells [(V.int .u64 (z13.2.2.1)), (V.int .u64 (z13.2.2.2.1)), (V.int .u64 (z13.2.2.2.2.1)), (V.int .u64 (z13.2.2.2.2.2.1)), (V.int .u64 (z13.2.2.2.2.2.2.1))]), (Blk.cells [(V.int .u64 (z13.2.2.1)), (V.int .u64 (z13.2.2.2.1)), (V.int .u64 (z13.2.2.2.2.1)), (V.int .u64 (z13.2.2.2.2.2.1)), (V.int .u64 (z13.2.2.2.2.2.2.1))]), (Blk.cells [(V.int .i64 (z13.2.2.2.2.2.2.2.2.1))]), (Blk.cells [(V.bool false)]), Blk.dfr, (Blk.loop .done (some (.exit 0)) ⟨39, [37], (subC [1, 0, 1, 1, 1, 0, 1, 0, 0, 1, 1, 0, 0, 1, 1, 1, 1, 1, 0, 0] (bodyOf Tryd.f39)), (subC [1, 0, 1, 1, 1, 0, 1, 0, 0, 1, 1, 0, 0, 1, 1, 1, 1, 1, 0, 1] (bodyOf Tryd.f39)), [(7, (V.ptr 3 0)), (8, (V.ptr 4 0)), (9, (V.ptr 5 0))], 10⟩), (Blk.cells [(V.yld 11)]), (Blk.cells [(V.int .u64 (z13.2.2.2.1))]), (Blk.cells [(V.bool false)]), Blk.dfr, (Blk.loop .busy none ⟨106, [11], (subC [1, 1, 0, 0] (bodyOf Tryd.f106)), (subC [1, 1, 0, 1] (bodyOf Tryd.f106)), [(1, (V.ptr 7 0)), (2, (V.ptr 9 0)), (3, (V.ptr 8 0)), (4, (V.ptr 12 0))], 15⟩), (Blk.row (.int .i64) (z13.1) 3 (z13q.1)), (Blk.cells [(V.int .i64 (z13.2.2.2.2.2.2.2.2.2.1))]), (Blk.cells [(V.int .u64 (z13.2.2.1))]), (Blk.cells [(V.bool false)]), (Blk.loop .done (some .ret) ⟨106, [16], (subC [1, 1, 0, 1, 0, 1, 0, 0] (bodyOf Tryd.f106)), (subC [1, 1, 0, 1, 0, 1, 0, 1] (bodyOf Tryd.f106)), [(3, (V.ptr 8 0)), (4, (V.ptr 12 0)), (5, (V.ptr 18 0))], 15⟩), (Blk.row (.int .i64) (z13.2.1) 3 (z13q.2))], []⟩)))) (req true (req true (req true (req true (next ⟨[(0, (V.yld 21)), (2, (V.ptr 20 0)), (4, (V.row 22 1 (List.length (z13.2.1)) (z13q.2))), (9, (V.int .i64 (z13.2.2.2.2.2.2.2.2.2.2.1))), (10, (V.int .i64 (IntKind.wrap .i64 ((z13.2.2.2.2.2.2.2.2.2.2.2) + 1)))), (11, (V.bool (decide ((z13.2.2.2.2.2.2.2.2.2.2.2) < (z13.2.2.2.2.2.2.2.2.2.2.1))))), (12, (V.int .i64 (z13.2.2.2.2.2.2.2.2.2.2.2))), (5, (V.int .i64 (z13.2.2.2.2.2.2.2.2.2.2.2))), (13, (V.bool false)), (19, (V.yld 21)), (20, (V.row 22 1 (List.length (z13.2.1)) (z13q.2))), (21, (V.int .i64 (z13.2.2.2.2.2.2.2.2.2.2.2))), (22, (V.rp 22 1 (Int.toNat (z13.2.2.2.2.2.2.2.2.2.2.2)) 0)), (23, (V.int .i64 (List.getD (z13.2.1) (Int.toNat (z13.2.2.2.2.2.2.2.2.2.2.2)) 0))), (24, (V.bool true)), (25, (V.bool false)), (26, (V.int .i64 (IntKind.wrap .i64 ((z13.2.2.2.2.2.2.2.2.2.2.2) + 1))))], [(Blk.cells [(V.int .u64 (z13.2.2.1)), (V.int .u64 (z13.2.2.2.1)), (V.int .u64 (z13.2.2.2.2.1)), (V.int .u64 (z13.2.2.2.2.2.1)), (V.int .u64 (z13.2.2.2.2.2.2.1))]), (Blk.cells [(V.int .i64 (z13.2.2.2.2.2.2.2.1))]), (Blk.cells [(V.int .u64 (z13.2.2.1)), (V.int .u64 (z13.2.2.2.1)), (V.int .u64 (z13.2.2.2.2.1)), (V.int .u64 (z13.2.2.2.2.2.1)), (V.int .u64 (z13.2.2.2.2.2.2.1))]), (Blk.cells [(V.fn 41 [] [(V.ptr 1 0)])]), (Blk.cells [(V.int .i64 0)]), (Blk.cells [(V.bool false)]), (Blk.cells [(V.int .u64 (z13.2.2.1)), (V.int .u64 (z13.2.2.2.1)), (V.int .u64 (z13.2.2.2.2.1)), (V.int .u64 (z13.2.2.2.2.2.1)), (V.int .u64 (z13.2.2.2.2.2.2.1))]), (Blk.cells [(V.int .u64 (z13.2.2.1)), (V.int .u64 (z13.2.2.2.1)), (V.int .u64 (z13.2.2.2.2.1)), (V.int .u64 (z13.2.2.2.2.2.1)), (V.int .u64 (z13.2.2.2.2.2.2.1))]), (Blk.cells [(V.int .i64 (z13.2.2.2.2.2.2.2.2.1))]), (Blk.cells [(V.bool false)]), Blk.dfr, (Blk.loop .ready none ⟨39, [37], (subC [1, 0, 1, 1, 1, 0, 1, 0, 0, 1, 1, 0, 0, 1, 1, 1, 1, 1, 0, 0] (bodyOf Tryd.f39)), (subC [1, 0, 1, 1, 1, 0, 1, 0, 0, 1, 1, 0, 0, 1, 1, 1, 1, 1, 0, 1] (bodyOf Tryd.f39)), [(7, (V.ptr 3 0)), (8, (V.ptr 4 0)), (9, (V.ptr 5 0))], 10⟩), (Blk.cells [(V.yld 11)]), (Blk.cells [(V.int .u64 (z13.2.2.2.1))]), (Blk.cells [(V.bool false)]), Blk.dfr, (Blk.loop .busy none ⟨106, [11], (subC [1, 1, 0, 0] (bodyOf Tryd.f106)), (subC [1, 1, 0, 1] (bodyOf Tryd.f106)), [(1, (V.ptr 7 0)), (2, (V.ptr 9 0)), (3, (V.ptr 8 0)), (4, (V.ptr 12 0))], 15⟩), (Blk.row (.int .i64) (z13.1) 3 (z13q.1)), (Blk.cells [(V.int .i64 (z13.2.2.2.2.2.2.2.2.2.1))]), (Blk.cells [(V.int .u64 (z13.2.2.1))]), (Blk.cells [(V.bool false)]), (Blk.loop .ready none ⟨106, [16], (subC [1, 1, 0, 1, 0, 1, 0, 0] (bodyOf Tryd.f106)), (subC [1, 1, 0, 1, 0, 1, 0, 1] (bodyOf Tryd.f106)), [(3, (V.ptr 8 0)), (4, (V.ptr 12 0)), (5, (V.ptr 18 0))], 15⟩), (Blk.row (.int .i64) (z13.2.1) 3 (z13q.2))], []⟩)))))))))))))))))))))))))))))))))) (wkK 23 K (.exit 0) ⟨[(0, (V.yld 21)), (2, (V.ptr 20 0)), (4, (V.row 22 1 (List.length (z13.2.1)) (z13q.2))), (9, (V.int .i64 (z13.2.2.2.2.2.2.2.2.2.2.1))), (10, (V.int .i64 (z13.2.2.2.2.2.2.2.2.2.2.2))), (11, (V.bool (decide ((z13.2.2.2.2.2.2.2.2.2.2.2) < (z13.2.2.2.2.2.2.2.2.2.2.1)))))], [(Blk.cells [(V.int .u64 (z13.2.2.1)), (V.int .u64 (z13.2.2.2.1)), (V.int .u64 (z13.2.2.2.2.1)), (V.int .u64 (z13.2.2.2.2.2.1)), (V.int .u64 (z13.2.2.2.2.2.2.1))]), (Blk.cells [(V.int .i64 (z13.2.2.2.2.2.2.2.1))]), (Blk.cells [(V.int .u64 (z13.2.2.1)), (V.int .u64 (z13.2.2.2.1)), (V.int .u64 (z13.2.2.2.2.1)), (V.int .u64 (z13.2.2.2.2.2.1)), (V.int .u64 (z13.2.2.2.2.2.2.1))]), (Blk.cells [(V.fn 41 [] [(V.ptr 1 0)])]), (Blk.cells [(V.int .i64 0)]), (Blk.cells [(V.bool false)]), (Blk.cells [(V.int .u64 (z13.2.2.1)), (V.int .u64 (z13.2.2.2.1)), (V.int .u64 (z13.2.2.2.2.1)), (V.int .u64 (z13.2.2.2.2.2.1)), (V.int .u64 (z13.2.2.2.2.2.2.1))]), (Blk.cells [(V.int .u64 (z13.2.2.1)), (V.int .u64 (z13.2.2.2.1)), (V.int .u64 (z13.2.2.2.2.1)), (V.int .u64 (z13.2.2.2.2.2.1)), (V.int .u64 (z13.2.2.2.2.2.2.1))]), (Blk.cells [(V.int .i64 (z13.2.2.2.2.2.2.2.2.1))]), (Blk.cells [(V.bool false)]), Blk.dfr, (Blk.loop .ready none ⟨39, [37], (subC [1, 0, 1, 1, 1, 0, 1, 0, 0, 1, 1, 0, 0, 1, 1, 1, 1, 1, 0, 0] (bodyOf Tryd.f39)), (subC [1, 0, 1, 1, 1, 0, 1, 0, 0, 1, 1, 0, 0, 1, 1, 1, 1, 1, 0, 1] (bodyOf Tryd.f39)), [(7, (V.ptr 3 0)), (8, (V.ptr 4 0)), (9, (V.ptr 5 0))], 10⟩), (Blk.cells [(V.yld 11)]), (Blk.cells [(V.int .u64 (z13.2.2.2.1))]), (Blk.cells [(V.bool false)]), Blk.dfr, (Blk.loop .busy none ⟨106, [11], (subC [1, 1, 0, 0] (bodyOf Tryd.f106)), (subC [1, 1, 0, 1] (bodyOf Tryd.f106)), [(1, (V.ptr 7 0)), (2, (V.ptr 9 0)), (3, (V.ptr 8 0)), (4, (V.ptr 12 0))], 15⟩), (Blk.row (.int .i64) (z13.1) 3 (z13q.1)), (Blk.cells [(V.int .i64 (z13.2.2.2.2.2.2.2.2.2.1))]), (Blk.cells [(V.int .u64 (z13.2.2.1))]), (Blk.cells [(V.bool false)]), (Blk.loop .ready none ⟨106, [16], (subC [1, 1, 0, 1, 0, 1, 0, 0] (bodyOf Tryd.f106)), (subC [1, 1, 0, 1, 0, 1, 0, 1] (bodyOf Tryd.f106)), [(3, (V.ptr 8 0)), (4, (V.ptr 12 0)), (5, (V.ptr 18 0))], 15⟩), (Blk.row (.int .i64) (z13.2.1) 3 (z13q.2))], []⟩))) := by kernel_rfl
theorem next_Next_l0_ok (n : Nat) : Owed next_Next_cx 127 next_Next_lp (n + 3) next_Next_l0_lp := loop_owed (fun z y h => h) fun k z13 z13q z13c y14_ K h hK next hnext => by
  refine cast (next_Next_l0_round n z13 z13q z13c K next).symm ?_
  simp only [next_Next_l0] at h
  refine req_intro rfl ?_
  refine br_both h (fun hb h => ?_) (fun hb h => ?_)
  · iterate 6 refine req_intro rfl ?_
    obtain ⟨q, h⟩ := req_of h
    refine req_intro (band (band_l q) (band_r q)) ?_
    obtain ⟨q, h⟩ := req_of h
    refine req_intro q ?_
    iterate 20 refine req_intro rfl ?_
    refine br_both h (fun hb h => ?_) (fun hb h => ?_)
    · iterate 3 refine req_intro rfl ?_
      subst h
      refine ⟨_, ?_, hK⟩
      exact wk_of (Or.inr ⟨trivial, ⟨Or.inl rfl, Or.inl rfl, Or.inl rfl, Or.inl rfl, Or.inl rfl, Or.inl rfl, Or.inl rfl, Or.inl rfl, Or.inl rfl, Or.inl rfl, Or.inl rfl, Or.inl rfl, Or.inl rfl, Or.inl rfl, Or.inl rfl, Or.inl rfl, Or.inl rfl, Or.inl rfl, Or.inl rfl, Or.inl rfl, Or.inl rfl, Or.inl rfl, Or.inl rfl, trivial⟩, rfl, rfl, rfl⟩)
    · iterate 4 refine req_intro rfl ?_
      exact hnext ((z13.1), (z13.2.1), (z13.2.2.1), (z13.2.2.2.1), (z13.2.2.2.2.1), (z13.2.2.2.2.2.1), (z13.2.2.2.2.2.2.1), (z13.2.2.2.2.2.2.2.1), (z13.2.2.2.2.2.2.2.2.1), (z13.2.2.2.2.2.2.2.2.2.1), (z13.2.2.2.2.2.2.2.2.2.2.1), (IntKind.wrap .i64 ((z13.2.2.2.2.2.2.2.2.2.2.2) + 1))) _ h hK ⟨(), wk_of (Or.inr ⟨⟨Or.inl rfl, Or.inl rfl, Or.inl rfl, Or.inl rfl, Or.inl rfl, trivial⟩, ⟨Or.inl rfl, Or.inl rfl, Or.inl rfl, Or.inl rfl, Or.inl rfl, Or.inl rfl, Or.inl rfl, Or.inl rfl, Or.inl rfl, Or.inl rfl, Or.inl rfl, Or.inl rfl, Or.inl rfl, Or.inl rfl, Or.inl rfl, Or.inl rfl, Or.inl rfl, Or.inl rfl, Or.inl rfl, Or.inl rfl, Or.inl rfl, Or.inl rfl, Or.inl rfl, trivial⟩, rfl, rfl, rfl⟩)⟩
  · subst h
    refine ⟨_, ?_, hK⟩
    exact wk_of (Or.inr ⟨trivial, ⟨Or.inl rfl, Or.inl rfl, Or.inl rfl, Or.inl rfl, Or.inl rfl, Or.inl rfl, Or.inl rfl, Or.inl rfl, Or.inl rfl, Or.inl rfl, Or.inl rfl, Or.inl rfl, Or.inl rfl, Or.inl rfl, Or.inl rfl, Or.inl rfl, Or.inl rfl, Or.inl rfl, Or.inl rfl, Or.inl rfl, Or.inl rfl, Or.inl rfl, Or.inl rfl, trivial⟩, rfl, rfl, rfl⟩)
theorem next_Next_l1_round (n : Nat) (z9 : next_Next_l1_Z) (z9q : next_Next_l1_Q) (z9c : next_Next_l1_C) (K : Ret → S → Prop) (next : S → Prop) : acode next_Next_cx 127 (acall next_Next_cx okT next_Next_lp (n + 5)) kept (next_Next_lp (n + 5) 127) none next_Next_l1_body (iterK (wkK 18 K) next) (next_Next_l1_st z9 z9q z9c) =
    (req true (br (decide ((z9.2.2.2.2.2.2.2.2.2) < (z9.2.2.2.2.2.2.2.2.1))) (req true (req true (req true (req true (req true (req true (req ((decide (0 ≤ (z9.2.2.2.2.2.2.2.2.2))) && (decide ((z9.2.2.2.2.2.2.2.2.2) < (((List.length (z9.1)) : Nat) : Int)))) (req (Nat.blt (Int.toNat (z9.2.2.2.2.2.2.2.2.2)) (List.length (z9.1))) (req true (req true (req true (req true (req true (req true (req true (req true (req true (∃ y11 : List Int, (mask_All_R (z9.2.1) y11) ∧ (∀ c12 : Nat, (req true (req true (req true (req true (((none : Option Nat) = (none : Option Nat)) ∧ (next_Next_l0_body = next_Next_l0_body) ∧ ∃ z15 : next_Next_l0_Z, ∃ z15q : next_Next_l0_Q, ∃ y16 : next_Next_l0_Y, (23 = 23) ∧ (∃ zc : next_Next_l0_C, wk 23 ⟨[(0, (V.yld 21)), (1, (V.ptr 19 0)), (2, (V.ptr 20 0)), (6, (V.int .u64 (z9.2.1))), (7, (V.row 22 1 (List.length y11) c12)), (4, (V.row 22 1 (List.length y11) c12)), (8, (V.row 22 1 (List.length y11) c12)), (9, (V.int .i64 (((List.length y11) : Nat) : Int))), (10, (V.int .i64 0))], [(Blk.cells [(V.int .u64 (z9.2.1)), (V.int .u64 (z9.2.2.1)), (V.int .u64 (z9.2.2.2.1)), (V.int .u64 (z9.2.2.2.2.1)), (V.int .u64 (z9.2.2.2.2.2.1))]), (Blk.cells [(V.int .i64 (z9.2.2.2.2.2.2.1))]), (Blk.cells [(V.int .u64 (z9.2.1)), (V.int .u64 (z9.2.2.1)), (V.int .u64 (z9.2.2.2.1)), (V.int .u64 (z9.2.2.2.2.1)), (V.int .u64 (z9.2.2.2.2.2.1))]), (Blk.cells [(V.fn 41 [] [(V.ptr 1 0)])]), (Blk.cells [(V.int .i64 0)]), (Blk.cells [(V.bool false)]), (Blk.cells [(V.int .u64 (z9.2.1)), (V.int .u64 (z9.2.2.1)), (V.int .u64 (z9.2.2.2.1)), (V.int .u64 (z9.2.2.2.2.1)), (V.int .u64 (z9.2.2.2.2.2.1))]), (Blk.cells [(V.int .u64 (z9.2.1)), (V.int .u64 (z9.2.2.1)), (V.int .u64 (z9.2.2.2.1)), (V.int .u64 (z9.2.2.2.2.1)), (V.int .u64 (z9.2.2.2.2.2.1))]), (Blk.cells [(V.int .i64 (z9.2.2.2.2.2.2.2.1))]), (Blk.cells [(V.bool false)]), Blk.dfr, (Blk.loop .ready none ⟨39, [37], (subC [1, 0, 1, 1, 1, 0, 1, 0, 0, 1, 1, 0, 0, 1, 1, 1, 1, 1, 0, 0] (bodyOf Tryd.f39)), (subC [1, 0, 1, 1, 1, 0, 1, 0, 0, 1, 1, 0, 0, 1, 1, 1, 1, 1, 0, 1] (bodyOf Tryd.f39)), [(7, (V.ptr 3 0)), (8, (V.ptr 4 0)), (9, (V.ptr 5 0))], 10⟩), (Blk.cells [(V.yld 11)]), (Blk.cells [(V.int .u64 (z9.2.2.1))]), (Blk.cells [(V.bool false)]), Blk.dfr, (Blk.loop .busy none ⟨106, [11], (subC [1, 1, 0, 0] (bodyOf Tryd.f106)), (subC [1, 1, 0, 1] (bodyOf Tryd.f106)), [(1, (V.ptr 7 0)), (2, (V.ptr 9 0)), (3, (V.ptr 8 0)), (4, (V.ptr 12 0))], 15⟩), (Blk.row (.int .i64) (z9.1) 3 z9q), (Blk.cells [(V.int .i64 (List.getD (z9.1) (Int.toNat (z9.2.2.2.2.2.2.2.2.2)) 0))]), (Blk.cells [(V.int .u64 (z9.2.1))]), (Blk.cells [(V.bool false)]), (Blk.loop .ready none ⟨106, [16], (subC [1, 1, 0, 1, 0, 1, 0, 0] (bodyOf Tryd.f106)), (subC [1, 1, 0, 1, 0, 1, 0, 1] (bodyOf Tryd.f106)), [(1, (V.ptr 7 0)), (2, (V.ptr 9 0)), (3, (V.ptr 8 0)), (4, (V.ptr 12 0)), (11, (V.int .i64 (List.getD (z9.1) (Int.toNat (z9.2.2.2.2.2.2.2.2.2)) 0))), (5, (V.ptr 18 0)), (12, (V.ptr 7 0)), (13, (V.int .u64 (z9.2.1))), (14, (V.bool false)), (15, (V.fn 127 [] [(V.ptr 19 0), (V.ptr 20 0)]))], 15⟩), (Blk.row (.int .i64) y11 3 c12)], []⟩ (next_Next_l0_st z15 z15q zc)) ∧ (∃ k, next_Next_l0 k z15 y16) ∧ sume (fun y16 => (req true (wkK 18 K .ret ⟨[(0, (V.yld 16)), (2, (V.ptr 14 0)), (4, (V.row 17 1 (List.length (z9.1)) z9q)), (9, (V.int .i64 (z9.2.2.2.2.2.2.2.2.1))), (10, (V.int .i64 (z9.2.2.2.2.2.2.2.2.2))), (11, (V.bool (decide ((z9.2.2.2.2.2.2.2.2.2) < (z9.2.2.2.2.2.2.2.2.1))))), (12, (V.int .i64 (z9.2.2.2.2.2.2.2.2.2))), (5, (V.int .i64 (z9.2.2.2.2.2.2.2.2.2))), (13, (V.bool false)), (19, (V.yld 16)), (20, (V.row 17 1 (List.length (z9.1)) z9q)), (21, (V.int .i64 (z9.2.2.2.2.2.2.2.2.2))), (22, (V.rp 17 1 (Int.toNat (z9.2.2.2.2.2.2.2.2.2)) 0)), (23, (V.int .i64 (List.getD (z9.1) (Int.toNat (z9.2.2.2.2.2.2.2.2.2)) 0))), (24, (V.bool false)), (25, (V.bool true))], [(Blk.cells [(V.int .u64 (z15.2.2.1)), (V.int .u64 (z15.2.2.2.1)), (V.int .u64 (z15.2.2.2.2.1)), (V.int .u64 (z15.2.2.2.2.2.1)), (V.int .u64 (z15.2.2.2.2.2.2.1))]), (Blk.cells [(V.int .i64 (z15.2.2.2.2.2.2.2.1))]), (Blk.cells [(V.int .u64 (z15.2.2.1)), (V.int .u64 (z15.2.2.2.1)), (V.int .u64 (z15.2.2.2.2.1)), (V.int .u64 (z15.2.2.2.2.2.1)), (V.int .u64 (z15.2.2.2.2.2.2.1))]), (Blk.cells [(V.fn 41 [] [(V.ptr 1 0)])]), (Blk.cells [(V.int .i64 y16)]), (Blk.cells [(V.bool true)]), (Blk.cells [(V.int .u64 (z15.2.2.1)), (V.int .u64 (z15.2.2.2.1)), (V.int .u64 (z15.2.2.2.2.1)), (V.int .u64 (z15.2.2.2.2.2.1)), (V.int .u64 (z15.2.2.2.2.2.2.1))]), (Blk.cells [(V.int .u64 (z15.2.2.1)), (V.int .u64 (z15.2.2.2.1)), (V.int .u64 (z15.2.2.2.2.1)), (V.int .u64 (z15.2.2.2.2.2.1)), (V.int .u64 (z15.2.2.2.2.2.2.1))]), (Blk.cells [(V.int .i64 (z15.2.2.2.2.2.2.2.2.1))]), (Blk.cells [(V.bool false)]), Blk.dfr, (Blk.loop .done (some (.exit 0)) ⟨39, [37], (subC [1, 0, 1, 1, 1, 0, 1, 0, 0, 1, 1, 0, 0, 1, 1, 1, 1, 1, 0, 0] (bodyOf Tryd.f39)), (subC [1, 0, 1, 1, 1, 0, 1, 0, 0, 1, 1, 0, 0, 1, 1, 1, 1, 1, 0, 1] (bodyOf Tryd.f39)), [(7, (V.ptr 3 0)), (8, (V.ptr 4 0)), (9, (V.ptr 5 0))], 10⟩), (Blk.cells [(V.yld 11)]), (Blk.cells [(V.int .u64 (z15.2.2.2.1))]), (Blk.cells [(V.bool false)]), Blk.dfr, (Blk.loop .done (some .ret) ⟨106, [11], (subC [1, 1, 0, 0] (bodyOf Tryd.f106)), (subC [1, 1, 0, 1] (bodyOf Tryd.f106)), [(1, (V.ptr 7 0)), (2, (V.ptr 9 0)), (3, (V.ptr 8 0)), (4, (V.ptr 12 0))], 15⟩), (Blk.row (.int .i64) (z15.1) 3 (z15q.1))], []⟩))) (fun y16 => (req true (req true (req true (next ⟨[(0, (V.yld 16)), (2, (V.ptr 14 0)), (4, (V.row 17 1 (List.length (z9.1)) z9q)), (9, (V.int .i64 (z9.2.2.2.2.2.2.2.2.1))), (10, (V.int .i64 (IntKind.wrap .i64 ((z9.2.2.2.2.2.2.2.2.2) + 1)))), (11, (V.bool (decide ((z9.2.2.2.2.2.2.2.2.2) < (z9.2.2.2.2.2.2.2.2.1))))), (12, (V.int .i64 (z9.2.2.2.2.2.2.2.2.2))), (5, (V.int .i64 (z9.2.2.2.2.2.2.2.2.2))), (13, (V.bool false)), (19, (V.yld 16)), (20, (V.row 17 1 (List.length (z9.1)) z9q)), (21, (V.int .i64 (z9.2.2.2.2.2.2.2.2.2))), (22, (V.rp 17 1 (Int.toNat (z9.2.2.2.2.2.2.2.2.2)) 0)), (23, (V.int .i64 (List.getD (z9.1) (Int.toNat (z9.2.2.2.2.2.2.2.2.2)) 0))), (24, (V.bool true)), (25, (V.bool false)), (26, (V.int .i64 (IntKind.wrap .i64 ((z9.2.2.2.2.2.2.2.2.2) + 1))))], [(Blk.cells [(V.int .u64 (z15.2.2.1)), (V.int .u64 (z15.2.2.2.1)), (V.int .u64 (z15.2.2.2.2.1)), (V.int .u64 (z15.2.2.2.2.2.1)), (V.int .u64 (z15.2.2.2.2.2.2.1))]), (Blk.cells [(V.int .i64 (z15.2.2.2.2.2.2.2.1))]), (Blk.cells [(V.int .u64 (z15.2.2.1)), (V.int .u64 (z15.2.2.2.1)), (V.int .u64 (z15.2.2.2.2.1)), (V.int .u64 (z15.2.2.2.2.2.1)), (V.int .u64 (z15.2.2.2.2.2.2.1))]), (Blk.cells [(V.fn 41 [] [(V.ptr 1 0)])]), (Blk.cells [(V.int .i64 0)]), (Blk.cells [(V.bool false)]), (Blk.cells [(V.int .u64 (z15.2.2.1)), (V.int .u64 (z15.2.2.2.1)), (V.int .u64 (z15.2.2.2.2.1)), (V.int .u64 (z15.2.2.2.2.2.1)), (V.int .u64 (z15.2.2.2.2.2.2.1))]), (Blk.cells [(V.int .u64 (z15.2.2.1)), (V.int .u64 (z15.2.2.2.1)), (V.int .u64 (z15.2.2.2.2.1)), (V.int .u64 (z15.2.2.2.2.2.1)), (V.int .u64 (z15.2.2.2.2.2.2.1))]), (Blk.cells [(V.int .i64 (z15.2.2.2.2.2.2.2.2.1))]), (Blk.cells [(V.bool false)]), Blk.dfr, (Blk.loop .ready none ⟨39, [37], (subC [1, 0, 1, 1, 1, 0, 1, 0, 0, 1, 1, 0, 0, 1, 1, 1, 1, 1, 0, 0] (bodyOf Tryd.f39)), (subC [1, 0, 1, 1, 1, 0, 1, 0, 0, 1, 1, 0, 0, 1, 1, 1, 1, 1, 0, 1] (bodyOf Tryd.f39)), [(7, (V.ptr 3 0)), (8, (V.ptr 4 0)), (9, (V.ptr 5 0))], 10⟩), (Blk.cells [(V.yld 11)]), (Blk.cells [(V.int .u64 (z15.2.2.2.1))]), (Blk.cells [(V.bool false)]), Blk.dfr, (Blk.loop .ready none ⟨106, [11], (subC [1, 1, 0, 0] (bodyOf Tryd.f106)), (subC [1, 1, 0, 1] (bodyOf Tryd.f106)), [(1, (V.ptr 7 0)), (2, (V.ptr 9 0)), (3, (V.ptr 8 0)), (4, (V.ptr 12 0))], 15⟩), (Blk.row (.int .i64) (z15.1) 3 (z15q.1))], []⟩))))) y16)))))))))))))))))))))))) (wkK 18 K (.exit 0) ⟨[(0, (V.yld 16)), (2, (V.ptr 14 0)), (4, (V.row 17 1 (List.length (z9.1)) z9q)), (9, (V.int .i64 (z9.2.2.2.2.2.2.2.2.1))), (10, (V.int .i64 (z9.2.2.2.2.2.2.2.2.2))), (11, (V.bool (decide ((z9.2.2.2.2.2.2.2.2.2) < (z9.2.2.2.2.2.2.2.2.1)))))], [(Blk.cells [(V.int .u64 (z9.2.1)), (V.int .u64 (z9.2.2.1)), (V.int .u64 (z9.2.2.2.1)), (V.int .u64 (z9.2.2.2.2.1)), (V.int .u64 (z9.2.2.2.2.2.1))]), (Blk.cells [(V.int .i64 (z9.2.2.2.2.2.2.1))]), (Blk.cells [(V.int .u64 (z9.2.1)), (V.int .u64 (z9.2.2.1)), (V.int .u64 (z9.2.2.2.1)), (V.int .u64 (z9.2.2.2.2.1)), (V.int .u64 (z9.2.2.2.2.2.1))]), (Blk.cells [(V.fn 41 [] [(V.ptr 1 0)])]), (Blk.cells [(V.int .i64 0)]), (Blk.cells [(V.bool false)]), (Blk.cells [(V.int .u64 (z9.2.1)), (V.int .u64 (z9.2.2.1)), (V.int .u64 (z9.2.2.2.1)), (V.int .u64 (z9.2.2.2.2.1)), (V.int .u64 (z9.2.2.2.2.2.1))]), (Blk.cells [(V.int .u64 (z9.2.1)), (V.int .u64 (z9.2.2.1)), (V.int .u64 (z9.2.2.2.1)), (V.int .u64 (z9.2.2.2.2.1)), (V.int .u64 (z9.2.2.2.2.2.1))]), (Blk.cells [(V.int .i64 (z9.2.2.2.2.2.2.2.1))]), (Blk.cells [(V.bool false)]), Blk.dfr, (Blk.loop .ready none ⟨39, [37], (subC [1, 0, 1, 1, 1, 0, 1, 0, 0, 1, 1, 0, 0, 1, 1, 1, 1, 1, 0, 0] (bodyOf Tryd.f39)), (subC [1, 0, 1, 1, 1, 0, 1, 0, 0, 1, 1, 0, 0, 1, 1, 1, 1, 1, 0, 1] (bodyOf Tryd.f39)), [(7, (V.ptr 3 0)), (8, (V.ptr 4 0)), (9, (V.ptr 5 0))], 10⟩), (Blk.cells [(V.yld 11)]), (Blk.cells [(V.int .u64 (z9.2.2.1))]), (Blk.cells [(V.bool false)]), Blk.dfr, (Blk.loop .ready none ⟨106, [11], (subC [1, 1, 0, 0] (bodyOf Tryd.f106)), (subC [1, 1, 0, 1] (bodyOf Tryd.f106)), [(1, (V.ptr 7 0)), (2, (V.ptr 9 0)), (3, (V.ptr 8 0)), (4, (V.ptr 12 0))], 15⟩), (Blk.row (.int .i64) (z9.1) 3 z9q)], []⟩))) := by kernel_rfl
theorem next_Next_l1_ok (n : Nat) : Owed next_Next_cx 127 next_Next_lp (n + 5) next_Next_l1_lp := loop_owed (fun z y h => h) fun k z9 z9q z9c y10_ K h hK next hnext => by
  refine cast (next_Next_l1_round n z9 z9q z9c K next).symm ?_
  simp only [next_Next_l1] at h
  refine req_intro rfl ?_
  refine br_both h (fun hb h => ?_) (fun hb h => ?_)
  · iterate 6 refine req_intro rfl ?_
    obtain ⟨q, h⟩ := req_of h
    refine req_intro (band (band_l q) (band_r q)) ?_
    obtain ⟨q, h⟩ := req_of h
    refine req_intro q ?_
    iterate 9 refine req_intro rfl ?_
    obtain ⟨y11, ry11, h⟩ := h
    refine ⟨y11, ry11, ?_⟩
    intro c12
    iterate 4 refine req_intro rfl ?_
    obtain ⟨y16, ry16, h⟩ := h
    refine ⟨rfl, rfl, ((z9.1), y11, (z9.2.1), (z9.2.2.1), (z9.2.2.2.1), (z9.2.2.2.2.1), (z9.2.2.2.2.2.1), (z9.2.2.2.2.2.2.1), (z9.2.2.2.2.2.2.2.1), (List.getD (z9.1) (Int.toNat (z9.2.2.2.2.2.2.2.2.2)) 0), (((List.length y11) : Nat) : Int), 0), (z9q, c12), y16, rfl, ⟨(), wk_of (Or.inr ⟨⟨Or.inl rfl, Or.inl rfl, Or.inl rfl, Or.inl rfl, Or.inl rfl, trivial⟩, ⟨Or.inl rfl, Or.inl rfl, Or.inl rfl, Or.inl rfl, Or.inl rfl, Or.inl rfl, Or.inl rfl, Or.inl rfl, Or.inl rfl, Or.inl rfl, Or.inl rfl, Or.inl rfl, Or.inl rfl, Or.inl rfl, Or.inl rfl, Or.inl rfl, Or.inl rfl, Or.inl rfl, Or.inl rfl, Or.inl rfl, Or.inl rfl, Or.inr (Or.inr (Or.inr ⟨rfl, rfl, rfl, rfl, rfl, rfl, rfl, ⟨Or.inl rfl, Or.inl rfl, Or.inl rfl, trivial⟩⟩)), Or.inl rfl, trivial⟩, rfl, rfl, rfl⟩)⟩, ry16, ?_⟩
    refine sume_both h (fun y16 h => ?_) (fun y16 h => ?_)
    · refine req_intro rfl ?_
      subst h
      refine ⟨_, ?_, hK⟩
      exact wk_of (Or.inr ⟨trivial, ⟨Or.inl rfl, Or.inl rfl, Or.inl rfl, Or.inl rfl, Or.inl rfl, Or.inl rfl, Or.inl rfl, Or.inl rfl, Or.inl rfl, Or.inl rfl, Or.inl rfl, Or.inl rfl, Or.inl rfl, Or.inl rfl, Or.inl rfl, Or.inl rfl, Or.inl rfl, Or.inl rfl, trivial⟩, rfl, rfl, rfl⟩)
    · iterate 3 refine req_intro rfl ?_
      exact hnext ((z9.1), (z9.2.1), (z9.2.2.1), (z9.2.2.2.1), (z9.2.2.2.2.1), (z9.2.2.2.2.2.1), (z9.2.2.2.2.2.2.1), (z9.2.2.2.2.2.2.2.1), (z9.2.2.2.2.2.2.2.2.1), (IntKind.wrap .i64 ((z9.2.2.2.2.2.2.2.2.2) + 1))) _ h hK ⟨(), wk_of (Or.inr ⟨⟨Or.inl rfl, Or.inl rfl, Or.inl rfl, Or.inl rfl, Or.inl rfl, trivial⟩, ⟨Or.inl rfl, Or.inl rfl, Or.inl rfl, Or.inl rfl, Or.inl rfl, Or.inl rfl, Or.inl rfl, Or.inl rfl, Or.inl rfl, Or.inl rfl, Or.inl rfl, Or.inl rfl, Or.inl rfl, Or.inl rfl, Or.inl rfl, Or.inl rfl, Or.inl rfl, Or.inl rfl, trivial⟩, rfl, rfl, rfl⟩)⟩
  · subst h
    refine ⟨_, ?_, hK⟩
    exact wk_of (Or.inr ⟨trivial, ⟨Or.inl rfl, Or.inl rfl, Or.inl rfl, Or.inl rfl, Or.inl rfl, Or.inl rfl, Or.inl rfl, Or.inl rfl, Or.inl rfl, Or.inl rfl, Or.inl rfl, Or.inl rfl, Or.inl rfl, Or.inl rfl, Or.inl rfl, Or.inl rfl, Or.inl rfl, Or.inl rfl, trivial⟩, rfl, rfl, rfl⟩)
theorem next_Next_l2_round (n : Nat) (z3 : next_Next_l2_Z) (z3q : next_Next_l2_Q) (z3c : next_Next_l2_C) (K : Ret → S → Prop) (next : S → Prop) : acode next_Next_cx 39 (acall next_Next_cx okT next_Next_lp (n + 7)) kept (next_Next_lp (n + 7) 39) none next_Next_l2_body (iterK (wkK 7 K) next) (next_Next_l2_st z3 z3q z3c) =
    (req true (br (decide ((z3.2.2.2.2.2.2.2) < 2923)) (req true (req true (req true (req true (req true (req true (req true (req true (req true (req true (req true (req true (∃ y5 : (Int × Int × Int) × Int, (days_At_R (IntKind.wrap .i64 ((z3.2.2.2.2.2.2.1) + (z3.2.2.2.2.2.2.2))) y5) ∧ (req true (req true (req true (req true (req true (req true (req true (br ((y5.2) == 0) (req true (req true (req true (∃ y6 : Bool, (cron_Day_R (z3.1) (z3.2.1) (z3.2.2.1) (z3.2.2.2.1) (z3.2.2.2.2.1) ((y5.1).1) (((y5.1).2).1) (((y5.1).2).2) y6) ∧ (req true (req true (req true (br (!y6) (req true (req true (next ⟨[(1, (V.int .i64 (z3.2.2.2.2.2.2.1))), (2, (V.bool false)), (4, (V.ptr 2 0)), (7, (V.ptr 3 0)), (8, (V.ptr 4 0)), (9, (V.ptr 5 0)), (10, (V.fn 105 [] [(V.ptr 6 0)])), (19, (V.int .i64 (IntKind.wrap .i64 ((z3.2.2.2.2.2.2.2) + 1)))), (20, (V.bool (decide ((z3.2.2.2.2.2.2.2) < 2923)))), (21, (V.int .i64 (z3.2.2.2.2.2.2.2))), (11, (V.int .i64 (z3.2.2.2.2.2.2.2))), (22, (V.int .i64 (z3.2.2.2.2.2.2.1))), (23, (V.int .i64 (z3.2.2.2.2.2.2.2))), (24, (V.int .i64 (IntKind.wrap .i64 ((z3.2.2.2.2.2.2.1) + (z3.2.2.2.2.2.2.2))))), (12, (V.int .i64 (IntKind.wrap .i64 ((z3.2.2.2.2.2.2.1) + (z3.2.2.2.2.2.2.2))))), (25, (V.bool false)), (29, (V.fn 105 [] [(V.ptr 6 0)])), (30, (V.int .i64 (IntKind.wrap .i64 ((z3.2.2.2.2.2.2.1) + (z3.2.2.2.2.2.2.2))))), (31, (V.bool y6)), (32, (V.bool (!y6))), (42, (V.int .i64 (IntKind.wrap .i64 ((z3.2.2.2.2.2.2.2) + 1))))], [(Blk.cells [(V.int .u64 (z3.1)), (V.int .u64 (z3.2.1)), (V.int .u64 (z3.2.2.1)), (V.int .u64 (z3.2.2.2.1)), (V.int .u64 (z3.2.2.2.2.1))]), (Blk.cells [(V.int .i64 (z3.2.2.2.2.2.1))]), (Blk.cells [(V.int .u64 (z3.1)), (V.int .u64 (z3.2.1)), (V.int .u64 (z3.2.2.1)), (V.int .u64 (z3.2.2.2.1)), (V.int .u64 (z3.2.2.2.2.1))]), (Blk.cells [(V.fn 41 [] [(V.ptr 1 0)])]), (Blk.cells [(V.int .i64 0)]), (Blk.cells [(V.bool false)]), (Blk.cells [(V.int .u64 (z3.1)), (V.int .u64 (z3.2.1)), (V.int .u64 (z3.2.2.1)), (V.int .u64 (z3.2.2.2.1)), (V.int .u64 (z3.2.2.2.2.1))])], []⟩))) (req true (req true (req true (req true (req true (req true (req true (req true (req true (req true (req true (req true (req true (req true (∃ y7 : List Int, (mask_All_R (z3.2.1) y7) ∧ (∀ c8 : Nat, (req true (req true (req true (req true (((none : Option Nat) = (none : Option Nat)) ∧ (next_Next_l1_body = next_Next_l1_body) ∧ ∃ z17 : next_Next_l1_Z, ∃ z17q : next_Next_l1_Q, ∃ y18 : next_Next_l1_Y, (18 = 18) ∧ (∃ zc : next_Next_l1_C, wk 18 ⟨[(0, (V.yld 16)), (1, (V.ptr 13 0)), (2, (V.ptr 14 0)), (6, (V.int .u64 (z3.2.1))), (7, (V.row 17 1 (List.length y7) c8)), (4, (V.row 17 1 (List.length y7) c8)), (8, (V.row 17 1 (List.length y7) c8)), (9, (V.int .i64 (((List.length y7) : Nat) : Int))), (10, (V.int .i64 0))], [(Blk.cells [(V.int .u64 (z3.1)), (V.int .u64 (z3.2.1)), (V.int .u64 (z3.2.2.1)), (V.int .u64 (z3.2.2.2.1)), (V.int .u64 (z3.2.2.2.2.1))]), (Blk.cells [(V.int .i64 (z3.2.2.2.2.2.1))]), (Blk.cells [(V.int .u64 (z3.1)), (V.int .u64 (z3.2.1)), (V.int .u64 (z3.2.2.1)), (V.int .u64 (z3.2.2.2.1)), (V.int .u64 (z3.2.2.2.2.1))]), (Blk.cells [(V.fn 41 [] [(V.ptr 1 0)])]), (Blk.cells [(V.int .i64 0)]), (Blk.cells [(V.bool false)]), (Blk.cells [(V.int .u64 (z3.1)), (V.int .u64 (z3.2.1)), (V.int .u64 (z3.2.2.1)), (V.int .u64 (z3.2.2.2.1)), (V.int .u64 (z3.2.2.2.2.1))]), (Blk.cells [(V.int .u64 (z3.1)), (V.int .u64 (z3.2.1)), (V.int .u64 (z3.2.2.1)), (V.int .u64 (z3.2.2.2.1)), (V.int .u64 (z3.2.2.2.2.1))]), (Blk.cells [(V.int .i64 (IntKind.wrap .i64 ((z3.2.2.2.2.2.2.1) + (z3.2.2.2.2.2.2.2))))]), (Blk.cells [(V.bool false)]), Blk.dfr, (Blk.loop .ready none ⟨39, [37], (subC [1, 0, 1, 1, 1, 0, 1, 0, 0, 1, 1, 0, 0, 1, 1, 1, 1, 1, 0, 0] (bodyOf Tryd.f39)), (subC [1, 0, 1, 1, 1, 0, 1, 0, 0, 1, 1, 0, 0, 1, 1, 1, 1, 1, 0, 1] (bodyOf Tryd.f39)), [(1, (V.int .i64 (z3.2.2.2.2.2.2.1))), (2, (V.bool false)), (4, (V.ptr 2 0)), (7, (V.ptr 3 0)), (8, (V.ptr 4 0)), (9, (V.ptr 5 0)), (10, (V.fn 105 [] [(V.ptr 6 0)])), (19, (V.int .i64 (z3.2.2.2.2.2.2.2))), (20, (V.bool (decide ((z3.2.2.2.2.2.2.2) < 2923)))), (21, (V.int .i64 (z3.2.2.2.2.2.2.2))), (11, (V.int .i64 (z3.2.2.2.2.2.2.2))), (22, (V.int .i64 (z3.2.2.2.2.2.2.1))), (23, (V.int .i64 (z3.2.2.2.2.2.2.2))), (24, (V.int .i64 (IntKind.wrap .i64 ((z3.2.2.2.2.2.2.1) + (z3.2.2.2.2.2.2.2))))), (12, (V.int .i64 (IntKind.wrap .i64 ((z3.2.2.2.2.2.2.1) + (z3.2.2.2.2.2.2.2))))), (25, (V.bool false)), (29, (V.fn 105 [] [(V.ptr 6 0)])), (30, (V.int .i64 (IntKind.wrap .i64 ((z3.2.2.2.2.2.2.1) + (z3.2.2.2.2.2.2.2))))), (31, (V.bool y6)), (32, (V.bool (!y6))), (33, (V.agg [(V.int .u64 (z3.1)), (V.int .u64 (z3.2.1)), (V.int .u64 (z3.2.2.1)), (V.int .u64 (z3.2.2.2.1)), (V.int .u64 (z3.2.2.2.2.1))])), (34, (V.int .i64 (IntKind.wrap .i64 ((z3.2.2.2.2.2.2.1) + (z3.2.2.2.2.2.2.2))))), (35, (V.bool false)), (36, (V.fn 106 [] [(V.ptr 7 0), (V.ptr 9 0), (V.ptr 8 0)]))], 10⟩), (Blk.cells [(V.yld 11)]), (Blk.cells [(V.int .u64 (z3.2.1))]), (Blk.cells [(V.bool false)]), Blk.dfr, (Blk.loop .ready none ⟨106, [11], (subC [1, 1, 0, 0] (bodyOf Tryd.f106)), (subC [1, 1, 0, 1] (bodyOf Tryd.f106)), [(0, (V.yld 11)), (1, (V.ptr 7 0)), (2, (V.ptr 9 0)), (3, (V.ptr 8 0)), (4, (V.ptr 12 0)), (7, (V.ptr 7 1)), (8, (V.int .u64 (z3.2.1))), (9, (V.bool false)), (10, (V.fn 127 [] [(V.ptr 13 0), (V.ptr 14 0)]))], 15⟩), (Blk.row (.int .i64) y7 3 c8)], []⟩ (next_Next_l1_st z17 z17q zc)) ∧ (∃ k, next_Next_l1 k z17 y18) ∧ sume (fun y18 => (wkK 7 K (.exit 0) ⟨[(1, (V.int .i64 (z3.2.2.2.2.2.2.1))), (2, (V.bool false)), (4, (V.ptr 2 0)), (7, (V.ptr 3 0)), (8, (V.ptr 4 0)), (9, (V.ptr 5 0)), (10, (V.fn 105 [] [(V.ptr 6 0)])), (19, (V.int .i64 (z3.2.2.2.2.2.2.2))), (20, (V.bool (decide ((z3.2.2.2.2.2.2.2) < 2923)))), (21, (V.int .i64 (z3.2.2.2.2.2.2.2))), (11, (V.int .i64 (z3.2.2.2.2.2.2.2))), (22, (V.int .i64 (z3.2.2.2.2.2.2.1))), (23, (V.int .i64 (z3.2.2.2.2.2.2.2))), (24, (V.int .i64 (IntKind.wrap .i64 ((z3.2.2.2.2.2.2.1) + (z3.2.2.2.2.2.2.2))))), (12, (V.int .i64 (IntKind.wrap .i64 ((z3.2.2.2.2.2.2.1) + (z3.2.2.2.2.2.2.2))))), (25, (V.bool false)), (29, (V.fn 105 [] [(V.ptr 6 0)])), (30, (V.int .i64 (IntKind.wrap .i64 ((z3.2.2.2.2.2.2.1) + (z3.2.2.2.2.2.2.2))))), (31, (V.bool y6)), (32, (V.bool (!y6))), (33, (V.agg [(V.int .u64 (z3.1)), (V.int .u64 (z3.2.1)), (V.int .u64 (z3.2.2.1)), (V.int .u64 (z3.2.2.2.1)), (V.int .u64 (z3.2.2.2.2.1))])), (34, (V.int .i64 (IntKind.wrap .i64 ((z3.2.2.2.2.2.2.1) + (z3.2.2.2.2.2.2.2))))), (35, (V.bool false)), (36, (V.fn 106 [] [(V.ptr 7 0), (V.ptr 9 0), (V.ptr 8 0)]))], [(Blk.cells [(V.int .u64 (z17.2.1)), (V.int .u64 (z17.2.2.1)), (V.int .u64 (z17.2.2.2.1)), (V.int .u64 (z17.2.2.2.2.1)), (V.int .u64 (z17.2.2.2.2.2.1))]), (Blk.cells [(V.int .i64 (z17.2.2.2.2.2.2.1))]), (Blk.cells [(V.int .u64 (z17.2.1)), (V.int .u64 (z17.2.2.1)), (V.int .u64 (z17.2.2.2.1)), (V.int .u64 (z17.2.2.2.2.1)), (V.int .u64 (z17.2.2.2.2.2.1))]), (Blk.cells [(V.fn 41 [] [(V.ptr 1 0)])]), (Blk.cells [(V.int .i64 y18)]), (Blk.cells [(V.bool true)]), (Blk.cells [(V.int .u64 (z17.2.1)), (V.int .u64 (z17.2.2.1)), (V.int .u64 (z17.2.2.2.1)), (V.int .u64 (z17.2.2.2.2.1)), (V.int .u64 (z17.2.2.2.2.2.1))]), (Blk.cells [(V.int .u64 (z17.2.1)), (V.int .u64 (z17.2.2.1)), (V.int .u64 (z17.2.2.2.1)), (V.int .u64 (z17.2.2.2.2.1)), (V.int .u64 (z17.2.2.2.2.2.1))]), (Blk.cells [(V.int .i64 (z17.2.2.2.2.2.2.2.1))]), (Blk.cells [(V.bool false)]), Blk.dfr, Blk.dead], [10]⟩)) (fun y18 => (req true (req true (next ⟨[(1, (V.int .i64 (z3.2.2.2.2.2.2.1))), (2, (V.bool false)), (4, (V.ptr 2 0)), (7, (V.ptr 3 0)), (8, (V.ptr 4 0)), (9, (V.ptr 5 0)), (10, (V.fn 105 [] [(V.ptr 6 0)])), (19, (V.int .i64 (IntKind.wrap .i64 ((z3.2.2.2.2.2.2.2) + 1)))), (20, (V.bool (decide ((z3.2.2.2.2.2.2.2) < 2923)))), (21, (V.int .i64 (z3.2.2.2.2.2.2.2))), (11, (V.int .i64 (z3.2.2.2.2.2.2.2))), (22, (V.int .i64 (z3.2.2.2.2.2.2.1))), (23, (V.int .i64 (z3.2.2.2.2.2.2.2))), (24, (V.int .i64 (IntKind.wrap .i64 ((z3.2.2.2.2.2.2.1) + (z3.2.2.2.2.2.2.2))))), (12, (V.int .i64 (IntKind.wrap .i64 ((z3.2.2.2.2.2.2.1) + (z3.2.2.2.2.2.2.2))))), (25, (V.bool false)), (29, (V.fn 105 [] [(V.ptr 6 0)])), (30, (V.int .i64 (IntKind.wrap .i64 ((z3.2.2.2.2.2.2.1) + (z3.2.2.2.2.2.2.2))))), (31, (V.bool y6)), (32, (V.bool (!y6))), (33, (V.agg [(V.int .u64 (z3.1)), (V.int .u64 (z3.2.1)), (V.int .u64 (z3.2.2.1)), (V.int .u64 (z3.2.2.2.1)), (V.int .u64 (z3.2.2.2.2.1))])), (34, (V.int .i64 (IntKind.wrap .i64 ((z3.2.2.2.2.2.2.1) + (z3.2.2.2.2.2.2.2))))), (35, (V.bool false)), (36, (V.fn 106 [] [(V.ptr 7 0), (V.ptr 9 0), (V.ptr 8 0)])), (42, (V.int .i64 (IntKind.wrap .i64 ((z3.2.2.2.2.2.2.2) + 1))))], [(Blk.cells [(V.int .u64 (z17.2.1)), (V.int .u64 (z17.2.2.1)), (V.int .u64 (z17.2.2.2.1)), (V.int .u64 (z17.2.2.2.2.1)), (V.int .u64 (z17.2.2.2.2.2.1))]), (Blk.cells [(V.int .i64 (z17.2.2.2.2.2.2.1))]), (Blk.cells [(V.int .u64 (z17.2.1)), (V.int .u64 (z17.2.2.1)), (V.int .u64 (z17.2.2.2.1)), (V.int .u64 (z17.2.2.2.2.1)), (V.int .u64 (z17.2.2.2.2.2.1))]), (Blk.cells [(V.fn 41 [] [(V.ptr 1 0)])]), (Blk.cells [(V.int .i64 0)]), (Blk.cells [(V.bool false)]), (Blk.cells [(V.int .u64 (z17.2.1)), (V.int .u64 (z17.2.2.1)), (V.int .u64 (z17.2.2.2.1)), (V.int .u64 (z17.2.2.2.2.1)), (V.int .u64 (z17.2.2.2.2.2.1))]), (Blk.cells [(V.int .u64 (z17.2.1)), (V.int .u64 (z17.2.2.1)), (V.int .u64 (z17.2.2.2.1)), (V.int .u64 (z17.2.2.2.2.1)), (V.int .u64 (z17.2.2.2.2.2.1))]), (Blk.cells [(V.int .i64 (z17.2.2.2.2.2.2.2.1))]), (Blk.cells [(V.bool false)]), Blk.dfr, Blk.dead], [10]⟩)))) y18))))))))))))))))))))))))))))) (req true (req true (req true (req true (req true (next ⟨[(1, (V.int .i64 (z3.2.2.2.2.2.2.1))), (2, (V.bool false)), (4, (V.ptr 2 0)), (7, (V.ptr 3 0)), (8, (V.ptr 4 0)), (9, (V.ptr 5 0)), (10, (V.fn 105 [] [(V.ptr 6 0)])), (19, (V.int .i64 (IntKind.wrap .i64 ((z3.2.2.2.2.2.2.2) + 1)))), (20, (V.bool (decide ((z3.2.2.2.2.2.2.2) < 2923)))), (21, (V.int .i64 (z3.2.2.2.2.2.2.2))), (11, (V.int .i64 (z3.2.2.2.2.2.2.2))), (22, (V.int .i64 (z3.2.2.2.2.2.2.1))), (23, (V.int .i64 (z3.2.2.2.2.2.2.2))), (24, (V.int .i64 (IntKind.wrap .i64 ((z3.2.2.2.2.2.2.1) + (z3.2.2.2.2.2.2.2))))), (12, (V.int .i64 (IntKind.wrap .i64 ((z3.2.2.2.2.2.2.1) + (z3.2.2.2.2.2.2.2))))), (25, (V.bool false)), (29, (V.fn 105 [] [(V.ptr 6 0)])), (30, (V.int .i64 (IntKind.wrap .i64 ((z3.2.2.2.2.2.2.1) + (z3.2.2.2.2.2.2.2))))), (31, (V.bool false)), (32, (V.bool true)), (42, (V.int .i64 (IntKind.wrap .i64 ((z3.2.2.2.2.2.2.2) + 1))))], [(Blk.cells [(V.int .u64 (z3.1)), (V.int .u64 (z3.2.1)), (V.int .u64 (z3.2.2.1)), (V.int .u64 (z3.2.2.2.1)), (V.int .u64 (z3.2.2.2.2.1))]), (Blk.cells [(V.int .i64 (z3.2.2.2.2.2.1))]), (Blk.cells [(V.int .u64 (z3.1)), (V.int .u64 (z3.2.1)), (V.int .u64 (z3.2.2.1)), (V.int .u64 (z3.2.2.2.1)), (V.int .u64 (z3.2.2.2.2.1))]), (Blk.cells [(V.fn 41 [] [(V.ptr 1 0)])]), (Blk.cells [(V.int .i64 0)]), (Blk.cells [(V.bool false)]), (Blk.cells [(V.int .u64 (z3.1)), (V.int .u64 (z3.2.1)), (V.int .u64 (z3.2.2.1)), (V.int .u64 (z3.2.2.2.1)), (V.int .u64 (z3.2.2.2.2.1))])], []⟩))))))))))))))))))))))))))) (wkK 7 K (.exit 0) ⟨[(1, (V.int .i64 (z3.2.2.2.2.2.2.1))), (2, (V.bool false)), (4, (V.ptr 2 0)), (7, (V.ptr 3 0)), (8, (V.ptr 4 0)), (9, (V.ptr 5 0)), (10, (V.fn 105 [] [(V.ptr 6 0)])), (19, (V.int .i64 (z3.2.2.2.2.2.2.2))), (20, (V.bool (decide ((z3.2.2.2.2.2.2.2) < 2923))))], [(Blk.cells [(V.int .u64 (z3.1)), (V.int .u64 (z3.2.1)), (V.int .u64 (z3.2.2.1)), (V.int .u64 (z3.2.2.2.1)), (V.int .u64 (z3.2.2.2.2.1))]), (Blk.cells [(V.int .i64 (z3.2.2.2.2.2.1))]), (Blk.cells [(V.int .u64 (z3.1)), (V.int .u64 (z3.2.1)), (V.int .u64 (z3.2.2.1)), (V.int .u64 (z3.2.2.2.1)), (V.int .u64 (z3.2.2.2.2.1))]), (Blk.cells [(V.fn 41 [] [(V.ptr 1 0)])]), (Blk.cells [(V.int .i64 0)]), (Blk.cells [(V.bool false)]), (Blk.cells [(V.int .u64 (z3.1)), (V.int .u64 (z3.2.1)), (V.int .u64 (z3.2.2.1)), (V.int .u64 (z3.2.2.2.1)), (V.int .u64 (z3.2.2.2.2.1))])], []⟩))) := by kernel_rfl
theorem next_Next_l2_ok (n : Nat) : Owed next_Next_cx 39 next_Next_lp (n + 7) next_Next_l2_lp := loop_owed (fun z y h => h) fun k z3 z3q z3c y4_ K h hK next hnext => by
  refine cast (next_Next_l2_round n z3 z3q z3c K next).symm ?_
  simp only [next_Next_l2] at h
  refine req_intro rfl ?_
  refine br_both h (fun hb h => ?_) (fun hb h => ?_)
  · iterate 12 refine req_intro rfl ?_
    obtain ⟨y5, ry5, h⟩ := h
    refine ⟨y5, ry5, ?_⟩
    iterate 7 refine req_intro rfl ?_
    refine br_both h (fun hb h => ?_) (fun hb h => ?_)
    · iterate 3 refine req_intro rfl ?_
      obtain ⟨y6, ry6, h⟩ := h
      refine ⟨y6, ry6, ?_⟩
      iterate 3 refine req_intro rfl ?_
      refine br_both h (fun hb h => ?_) (fun hb h => ?_)
      · iterate 2 refine req_intro rfl ?_
        exact hnext ((z3.1), (z3.2.1), (z3.2.2.1), (z3.2.2.2.1), (z3.2.2.2.2.1), (z3.2.2.2.2.2.1), (z3.2.2.2.2.2.2.1), (IntKind.wrap .i64 ((z3.2.2.2.2.2.2.2) + 1))) _ h hK ⟨(), wk_of (Or.inr ⟨⟨Or.inl rfl, Or.inl rfl, Or.inl rfl, Or.inl rfl, Or.inl rfl, Or.inl rfl, Or.inl rfl, Or.inl rfl, trivial⟩, ⟨Or.inl rfl, Or.inl rfl, Or.inl rfl, Or.inl rfl, Or.inl rfl, Or.inl rfl, Or.inl rfl, trivial⟩, rfl, rfl, rfl⟩)⟩
      · iterate 14 refine req_intro rfl ?_
        obtain ⟨y7, ry7, h⟩ := h
        refine ⟨y7, ry7, ?_⟩
        intro c8
        iterate 4 refine req_intro rfl ?_
        obtain ⟨y18, ry18, h⟩ := h
        refine ⟨rfl, rfl, (y7, (z3.1), (z3.2.1), (z3.2.2.1), (z3.2.2.2.1), (z3.2.2.2.2.1), (z3.2.2.2.2.2.1), (IntKind.wrap .i64 ((z3.2.2.2.2.2.2.1) + (z3.2.2.2.2.2.2.2))), (((List.length y7) : Nat) : Int), 0), c8, y18, rfl, ⟨(), wk_of (Or.inr ⟨⟨Or.inl rfl, Or.inl rfl, Or.inl rfl, Or.inl rfl, Or.inl rfl, trivial⟩, ⟨Or.inl rfl, Or.inl rfl, Or.inl rfl, Or.inl rfl, Or.inl rfl, Or.inl rfl, Or.inl rfl, Or.inl rfl, Or.inl rfl, Or.inl rfl, Or.inl rfl, Or.inr (Or.inr (Or.inr ⟨rfl, rfl, rfl, rfl, rfl, rfl, rfl, ⟨Or.inl rfl, Or.inl rfl, Or.inl rfl, trivial⟩⟩)), Or.inl rfl, Or.inl rfl, Or.inl rfl, Or.inl rfl, Or.inr (Or.inr (Or.inr ⟨rfl, rfl, rfl, rfl, rfl, rfl, rfl, ⟨Or.inl rfl, Or.inl rfl, Or.inl rfl, Or.inl rfl, trivial⟩⟩)), Or.inl rfl, trivial⟩, rfl, rfl, rfl⟩)⟩, ry18, ?_⟩
        refine sume_both h (fun y18 h => ?_) (fun y18 h => ?_)
        · subst h
          refine ⟨_, ?_, hK⟩
          exact ⟨_, ⟨[(8, (V.ptr 4 0)), (9, (V.ptr 5 0))], [(Blk.cells [(V.int .u64 (z3.1)), (V.int .u64 (z3.2.1)), (V.int .u64 (z3.2.2.1)), (V.int .u64 (z3.2.2.2.1)), (V.int .u64 (z3.2.2.2.2.1))]), (Blk.cells [(V.int .i64 (z3.2.2.2.2.2.1))]), (Blk.cells [(V.int .u64 (z3.1)), (V.int .u64 (z3.2.1)), (V.int .u64 (z3.2.2.1)), (V.int .u64 (z3.2.2.2.1)), (V.int .u64 (z3.2.2.2.2.1))]), (Blk.cells [(V.fn 41 [] [(V.ptr 1 0)])]), (Blk.cells [(V.int .i64 y18)]), (Blk.cells [(V.bool true)]), (Blk.cells [(V.int .u64 (z3.1)), (V.int .u64 (z3.2.1)), (V.int .u64 (z3.2.2.1)), (V.int .u64 (z3.2.2.2.1)), (V.int .u64 (z3.2.2.2.2.1))]), Blk.dead, Blk.dead, Blk.dead, Blk.dead, Blk.dead], []⟩, ⟨[10], rfl, rfl⟩, Or.inr ⟨[0, 1, 2, 3, 4, 5, 6, 0, 0, 0, 0, 0], rfl, rfl, rfl, rfl, rfl, ⟨rfl, rfl, trivial⟩, ⟨Or.inr rfl, Or.inr rfl, Or.inr rfl, Or.inr rfl, Or.inr rfl, Or.inr rfl, Or.inr rfl, Or.inl rfl, Or.inl rfl, Or.inl rfl, Or.inl rfl, Or.inl rfl, trivial⟩, rfl, rfl⟩, Or.inr ⟨⟨Or.inl rfl, Or.inl rfl, trivial⟩, ⟨Or.inl rfl, Or.inl rfl, Or.inl rfl, Or.inl rfl, Or.inl rfl, Or.inl rfl, Or.inl rfl, Or.inl rfl, Or.inl rfl, Or.inl rfl, Or.inl rfl, Or.inl rfl, trivial⟩, rfl, rfl, rfl⟩⟩
        · iterate 2 refine req_intro rfl ?_
          exact hnext ((z3.1), (z3.2.1), (z3.2.2.1), (z3.2.2.2.1), (z3.2.2.2.2.1), (z3.2.2.2.2.2.1), (z3.2.2.2.2.2.2.1), (IntKind.wrap .i64 ((z3.2.2.2.2.2.2.2) + 1))) _ h hK ⟨(), ⟨_, _, ⟨[10], rfl, rfl⟩, Or.inl rfl, Or.inr ⟨⟨Or.inl rfl, Or.inl rfl, Or.inl rfl, Or.inl rfl, Or.inl rfl, Or.inl rfl, Or.inl rfl, Or.inl rfl, trivial⟩, ⟨Or.inl rfl, Or.inl rfl, Or.inl rfl, Or.inl rfl, Or.inl rfl, Or.inl rfl, Or.inl rfl, trivial⟩, rfl, rfl, rfl⟩⟩⟩
    · iterate 5 refine req_intro rfl ?_
      exact hnext ((z3.1), (z3.2.1), (z3.2.2.1), (z3.2.2.2.1), (z3.2.2.2.2.1), (z3.2.2.2.2.2.1), (z3.2.2.2.2.2.2.1), (IntKind.wrap .i64 ((z3.2.2.2.2.2.2.2) + 1))) _ h hK ⟨(), wk_of (Or.inr ⟨⟨Or.inl rfl, Or.inl rfl, Or.inl rfl, Or.inl rfl, Or.inl rfl, Or.inl rfl, Or.inl rfl, Or.inl rfl, trivial⟩, ⟨Or.inl rfl, Or.inl rfl, Or.inl rfl, Or.inl rfl, Or.inl rfl, Or.inl rfl, Or.inl rfl, trivial⟩, rfl, rfl, rfl⟩)⟩
  · subst h
    refine ⟨_, ?_, hK⟩
    exact ⟨_, ⟨[(8, (V.ptr 4 0)), (9, (V.ptr 5 0))], [(Blk.cells [(V.int .u64 (z3.1)), (V.int .u64 (z3.2.1)), (V.int .u64 (z3.2.2.1)), (V.int .u64 (z3.2.2.2.1)), (V.int .u64 (z3.2.2.2.2.1))]), (Blk.cells [(V.int .i64 (z3.2.2.2.2.2.1))]), (Blk.cells [(V.int .u64 (z3.1)), (V.int .u64 (z3.2.1)), (V.int .u64 (z3.2.2.1)), (V.int .u64 (z3.2.2.2.1)), (V.int .u64 (z3.2.2.2.2.1))]), (Blk.cells [(V.fn 41 [] [(V.ptr 1 0)])]), (Blk.cells [(V.int .i64 0)]), (Blk.cells [(V.bool false)]), (Blk.cells [(V.int .u64 (z3.1)), (V.int .u64 (z3.2.1)), (V.int .u64 (z3.2.2.1)), (V.int .u64 (z3.2.2.2.1)), (V.int .u64 (z3.2.2.2.2.1))]), Blk.dead, Blk.dead, Blk.dead, Blk.dead, Blk.dead], []⟩, ⟨[], rfl, rfl⟩, Or.inr ⟨[0, 1, 2, 3, 4, 5, 6, 0, 0, 0, 0, 0], rfl, rfl, rfl, rfl, rfl, ⟨rfl, rfl, trivial⟩, ⟨Or.inr rfl, Or.inr rfl, Or.inr rfl, Or.inr rfl, Or.inr rfl, Or.inr rfl, Or.inr rfl, Or.inl rfl, Or.inl rfl, Or.inl rfl, Or.inl rfl, Or.inl rfl, trivial⟩, rfl, rfl⟩, Or.inr ⟨⟨Or.inl rfl, Or.inl rfl, trivial⟩, ⟨Or.inl rfl, Or.inl rfl, Or.inl rfl, Or.inl rfl, Or.inl rfl, Or.inl rfl, Or.inl rfl, Or.inl rfl, Or.inl rfl, Or.inl rfl, Or.inl rfl, Or.inl rfl, trivial⟩, rfl, rfl, rfl⟩⟩
theorem next_Next_lpok : LpOk next_Next_cx okT next_Next_lp := LpOk_tab ⟨next_Next_l0_ok, next_Next_l1_ok, next_Next_l2_ok, trivial⟩
def next_Next_R (a0 : Int) (a1 : Int) (a2 : Int) (a3 : Int) (a4 : Int) (a5 : Int) (y : Int × Bool) : Prop :=
  (∃ y1 : Int, (next_of_R a5 y1) ∧ (∃ y2 : Int, (cron_Check_R a0 a1 a2 a3 a4 y2) ∧ (br (y2 != 0) ((0, false) = y) (∃ y20 : next_Next_l2_Y, next_Next_l2_L (a0, a1, a2, a3, a4, a5, y1, 0) y20 ∧ (((y20.1), (y20.2)) = y)))))
end Go.Proofs.YtiffoefhadgdnaaDoor
