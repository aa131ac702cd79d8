/- What Go functions come to (printed by gb.py). -/
import Derived.Test.YtiffoefhadgdnaaDoorBj
import Derived.Test.YtiffoefhadgdnaaDoorProg
namespace Go.Proofs.YtiffoefhadgdnaaDoor
open Go Go.B Go.RowKit
set_option linter.unusedVariables false
set_option linter.unusedSimpArgs false
set_option maxRecDepth 100000
attribute [local irreducible] Go.B.acall Go.B.acode
def tyT : List (Nat × TyE) := [(1, ⟨.other, 1, [(V.old .nilFunc)], 8, none⟩),
  (2, ⟨.int .i64, 1, [(V.int .i64 0)], 8, some (.int .i64)⟩),
  (3, ⟨.int .i64, 1, [(V.int .i64 0)], 8, some (.int .i64)⟩),
  (4, ⟨.bool, 1, [(V.bool false)], 1, some .bool⟩),
  (5, ⟨.int .u8, 1, [(V.int .u8 0)], 1, some (.int .u8)⟩),
  (6, ⟨.int .u8, 1, [(V.int .u8 0)], 1, some (.int .u8)⟩),
  (22, ⟨.int .u64, 1, [(V.int .u64 0)], 8, some (.int .u64)⟩),
  (23, ⟨.int .u64, 1, [(V.int .u64 0)], 8, some (.int .u64)⟩),
  (24, ⟨.st [(23, 0), (23, 1), (23, 2), (23, 3), (23, 4)], 5, [(V.int .u64 0), (V.int .u64 0), (V.int .u64 0), (V.int .u64 0), (V.int .u64 0)], 40, some (.pr (.int .u64) (.pr (.int .u64) (.pr (.int .u64) (.pr (.int .u64) (.int .u64)))))⟩),
  (25, ⟨.st [(23, 0), (23, 1), (23, 2), (23, 3), (23, 4)], 5, [(V.int .u64 0), (V.int .u64 0), (V.int .u64 0), (V.int .u64 0), (V.int .u64 0)], 40, some (.pr (.int .u64) (.pr (.int .u64) (.pr (.int .u64) (.pr (.int .u64) (.int .u64)))))⟩),
  (26, ⟨.arr 2 2, 2, [(V.int .i64 0), (V.int .i64 0)], 16, some (.pr (.int .i64) (.int .i64))⟩),
  (27, ⟨.slc 3, 1, [(V.old (.slice none 0 0))], 24, some (.sl (.int .i64))⟩),
  (29, ⟨.slc 2, 1, [(V.old (.slice none 0 0))], 24, some (.sl (.int .i64))⟩),
  (30, ⟨.int .i64, 1, [(V.int .i64 0)], 8, some (.int .i64)⟩),
  (41, ⟨.other, 1, [(V.old .nilFunc)], 8, none⟩),
  (42, ⟨.slc 22, 1, [(V.old (.slice none 0 0))], 24, some (.sl (.int .u64))⟩),
  (44, ⟨.int .u32, 1, [(V.int .u32 0)], 4, some (.int .u32)⟩),
  (45, ⟨.st [(44, 0), (4, 1), (25, 2), (2, 7), (3, 8), (3, 9), (3, 10)], 11, [(V.int .u32 0), (V.bool false), (V.int .u64 0), (V.int .u64 0), (V.int .u64 0), (V.int .u64 0), (V.int .u64 0), (V.int .i64 0), (V.int .i64 0), (V.int .i64 0), (V.int .i64 0)], 80, some (.pr (.int .u32) (.pr .bool (.pr (.pr (.int .u64) (.pr (.int .u64) (.pr (.int .u64) (.pr (.int .u64) (.int .u64))))) (.pr (.int .i64) (.pr (.int .i64) (.pr (.int .i64) (.int .i64)))))))⟩),
  (46, ⟨.st [(44, 0), (4, 1), (25, 2), (2, 7), (3, 8), (3, 9), (3, 10)], 11, [(V.int .u32 0), (V.bool false), (V.int .u64 0), (V.int .u64 0), (V.int .u64 0), (V.int .u64 0), (V.int .u64 0), (V.int .i64 0), (V.int .i64 0), (V.int .i64 0), (V.int .i64 0)], 80, some (.pr (.int .u32) (.pr .bool (.pr (.pr (.int .u64) (.pr (.int .u64) (.pr (.int .u64) (.pr (.int .u64) (.int .u64))))) (.pr (.int .i64) (.pr (.int .i64) (.pr (.int .i64) (.int .i64)))))))⟩),
  (47, ⟨.st [(22, 0), (2, 1), (3, 2)], 3, [(V.int .u64 0), (V.int .i64 0), (V.int .i64 0)], 24, some (.pr (.int .u64) (.pr (.int .i64) (.int .i64)))⟩),
  (48, ⟨.st [(22, 0), (2, 1), (3, 2)], 3, [(V.int .u64 0), (V.int .i64 0), (V.int .i64 0)], 24, some (.pr (.int .u64) (.pr (.int .i64) (.int .i64)))⟩),
  (49, ⟨.st [(46, 0), (4, 11), (2, 12), (48, 13), (29, 16)], 17, [(V.int .u32 0), (V.bool false), (V.int .u64 0), (V.int .u64 0), (V.int .u64 0), (V.int .u64 0), (V.int .u64 0), (V.int .i64 0), (V.int .i64 0), (V.int .i64 0), (V.int .i64 0), (V.bool false), (V.int .i64 0), (V.int .u64 0), (V.int .i64 0), (V.int .i64 0), (V.old (.slice none 0 0))], 144, some (.pr (.pr (.int .u32) (.pr .bool (.pr (.pr (.int .u64) (.pr (.int .u64) (.pr (.int .u64) (.pr (.int .u64) (.int .u64))))) (.pr (.int .i64) (.pr (.int .i64) (.pr (.int .i64) (.int .i64))))))) (.pr .bool (.pr (.int .i64) (.pr (.pr (.int .u64) (.pr (.int .i64) (.int .i64))) (.sl (.int .i64))))))⟩),
  (50, ⟨.st [(46, 0), (4, 11), (2, 12), (48, 13), (29, 16)], 17, [(V.int .u32 0), (V.bool false), (V.int .u64 0), (V.int .u64 0), (V.int .u64 0), (V.int .u64 0), (V.int .u64 0), (V.int .i64 0), (V.int .i64 0), (V.int .i64 0), (V.int .i64 0), (V.bool false), (V.int .i64 0), (V.int .u64 0), (V.int .i64 0), (V.int .i64 0), (V.old (.slice none 0 0))], 144, some (.pr (.pr (.int .u32) (.pr .bool (.pr (.pr (.int .u64) (.pr (.int .u64) (.pr (.int .u64) (.pr (.int .u64) (.int .u64))))) (.pr (.int .i64) (.pr (.int .i64) (.pr (.int .i64) (.int .i64))))))) (.pr .bool (.pr (.int .i64) (.pr (.pr (.int .u64) (.pr (.int .i64) (.int .i64))) (.sl (.int .i64))))))⟩),
  (54, ⟨.slc 63, 1, [(V.old (.slice none 0 0))], 24, some (.sl (.pr (.int .u64) (.pr (.int .u32) (.pr (.int .i64) (.int .i64)))))⟩),
  (59, ⟨.int .u64, 1, [(V.int .u64 0)], 8, some (.int .u64)⟩),
  (62, ⟨.st [(22, 0), (44, 1), (2, 2), (3, 3)], 4, [(V.int .u64 0), (V.int .u32 0), (V.int .i64 0), (V.int .i64 0)], 32, some (.pr (.int .u64) (.pr (.int .u32) (.pr (.int .i64) (.int .i64))))⟩),
  (63, ⟨.st [(22, 0), (44, 1), (2, 2), (3, 3)], 4, [(V.int .u64 0), (V.int .u32 0), (V.int .i64 0), (V.int .i64 0)], 32, some (.pr (.int .u64) (.pr (.int .u32) (.pr (.int .i64) (.int .i64))))⟩),
  (64, ⟨.other, 1, [(V.old .nilFunc)], 8, none⟩),
  (66, ⟨.other, 1, [(V.old .nilFunc)], 8, none⟩),
  (67, ⟨.other, 1, [(V.old .nilFunc)], 8, none⟩),
  (81, ⟨.other, 1, [(V.old .nilFunc)], 8, none⟩),
  (82, ⟨.st [(3, 0), (3, 1), (3, 2)], 3, [(V.int .i64 0), (V.int .i64 0), (V.int .i64 0)], 24, some (.pr (.int .i64) (.pr (.int .i64) (.int .i64)))⟩),
  (83, ⟨.st [(3, 0), (3, 1), (3, 2)], 3, [(V.int .i64 0), (V.int .i64 0), (V.int .i64 0)], 24, some (.pr (.int .i64) (.pr (.int .i64) (.int .i64)))⟩),
  (89, ⟨.ptr 23, 1, [(V.old (.pointer none))], 8, none⟩),
  (90, ⟨.arr 5 89, 5, [(V.old (.pointer none)), (V.old (.pointer none)), (V.old (.pointer none)), (V.old (.pointer none)), (V.old (.pointer none))], 40, none⟩),
  (105, ⟨.ptr 110, 1, [(V.old (.pointer none))], 8, none⟩),
  (106, ⟨.other, 1, [(V.old .nilFunc)], 8, none⟩),
  (108, ⟨.arr 1 63, 4, [(V.int .u64 0), (V.int .u32 0), (V.int .i64 0), (V.int .i64 0)], 32, some (.pr (.int .u64) (.pr (.int .u32) (.pr (.int .i64) (.int .i64))))⟩),
  (109, ⟨.st [(50, 0), (108, 17), (3, 21)], 22, [(V.int .u32 0), (V.bool false), (V.int .u64 0), (V.int .u64 0), (V.int .u64 0), (V.int .u64 0), (V.int .u64 0), (V.int .i64 0), (V.int .i64 0), (V.int .i64 0), (V.int .i64 0), (V.bool false), (V.int .i64 0), (V.int .u64 0), (V.int .i64 0), (V.int .i64 0), (V.old (.slice none 0 0)), (V.int .u64 0), (V.int .u32 0), (V.int .i64 0), (V.int .i64 0), (V.int .i64 0)], 184, some (.pr (.pr (.pr (.int .u32) (.pr .bool (.pr (.pr (.int .u64) (.pr (.int .u64) (.pr (.int .u64) (.pr (.int .u64) (.int .u64))))) (.pr (.int .i64) (.pr (.int .i64) (.pr (.int .i64) (.int .i64))))))) (.pr .bool (.pr (.int .i64) (.pr (.pr (.int .u64) (.pr (.int .i64) (.int .i64))) (.sl (.int .i64)))))) (.pr (.pr (.int .u64) (.pr (.int .u32) (.pr (.int .i64) (.int .i64)))) (.int .i64)))⟩),
  (110, ⟨.st [(50, 0), (108, 17), (3, 21)], 22, [(V.int .u32 0), (V.bool false), (V.int .u64 0), (V.int .u64 0), (V.int .u64 0), (V.int .u64 0), (V.int .u64 0), (V.int .i64 0), (V.int .i64 0), (V.int .i64 0), (V.int .i64 0), (V.bool false), (V.int .i64 0), (V.int .u64 0), (V.int .i64 0), (V.int .i64 0), (V.old (.slice none 0 0)), (V.int .u64 0), (V.int .u32 0), (V.int .i64 0), (V.int .i64 0), (V.int .i64 0)], 184, some (.pr (.pr (.pr (.int .u32) (.pr .bool (.pr (.pr (.int .u64) (.pr (.int .u64) (.pr (.int .u64) (.pr (.int .u64) (.int .u64))))) (.pr (.int .i64) (.pr (.int .i64) (.pr (.int .i64) (.int .i64))))))) (.pr .bool (.pr (.int .i64) (.pr (.pr (.int .u64) (.pr (.int .i64) (.int .i64))) (.sl (.int .i64)))))) (.pr (.pr (.int .u64) (.pr (.int .u32) (.pr (.int .i64) (.int .i64)))) (.int .i64)))⟩),
  (113, ⟨.other, 1, [(V.old .nilFunc)], 8, none⟩),
  (114, ⟨.other, 1, [(V.old .nilFunc)], 8, none⟩),
  (115, ⟨.arr 3 114, 3, [(V.old .nilFunc), (V.old .nilFunc), (V.old .nilFunc)], 24, none⟩),
  (116, ⟨.other, 1, [(V.old .nilFunc)], 8, none⟩),
  (117, ⟨.other, 1, [(V.old .nilFunc)], 8, none⟩),
  (118, ⟨.st [(117, 0), (117, 1)], 2, [(V.old .nilFunc), (V.old .nilFunc)], 16, none⟩),
  (119, ⟨.st [(117, 0), (117, 1)], 2, [(V.old .nilFunc), (V.old .nilFunc)], 16, none⟩),
  (127, ⟨.other, 1, [(V.old .nilFunc)], 8, none⟩),
  (139, ⟨.other, 1, [(V.old .nilFunc)], 8, none⟩),
  (156, ⟨.st [(3, 0), (3, 1)], 2, [(V.int .i64 0), (V.int .i64 0)], 16, some (.pr (.int .i64) (.int .i64))⟩),
  (157, ⟨.st [(3, 0), (3, 1)], 2, [(V.int .i64 0), (V.int .i64 0)], 16, some (.pr (.int .i64) (.int .i64))⟩),
  (164, ⟨.slc 23, 1, [(V.old (.slice none 0 0))], 24, some (.sl (.int .u64))⟩),
  (166, ⟨.arr 5 157, 10, [(V.int .i64 0), (V.int .i64 0), (V.int .i64 0), (V.int .i64 0), (V.int .i64 0), (V.int .i64 0), (V.int .i64 0), (V.int .i64 0), (V.int .i64 0), (V.int .i64 0)], 80, some (.pr (.pr (.int .i64) (.int .i64)) (.pr (.pr (.int .i64) (.int .i64)) (.pr (.pr (.int .i64) (.int .i64)) (.pr (.pr (.int .i64) (.int .i64)) (.pr (.int .i64) (.int .i64))))))⟩),
  (167, ⟨.st [(3, 0), (3, 1), (3, 2)], 3, [(V.int .i64 0), (V.int .i64 0), (V.int .i64 0)], 24, some (.pr (.int .i64) (.pr (.int .i64) (.int .i64)))⟩),
  (168, ⟨.arr 4 167, 12, [(V.int .i64 0), (V.int .i64 0), (V.int .i64 0), (V.int .i64 0), (V.int .i64 0), (V.int .i64 0), (V.int .i64 0), (V.int .i64 0), (V.int .i64 0), (V.int .i64 0), (V.int .i64 0), (V.int .i64 0)], 96, some (.pr (.pr (.int .i64) (.pr (.int .i64) (.int .i64))) (.pr (.pr (.int .i64) (.pr (.int .i64) (.int .i64))) (.pr (.pr (.int .i64) (.pr (.int .i64) (.int .i64))) (.pr (.int .i64) (.pr (.int .i64) (.int .i64))))))⟩),
  (170, ⟨.other, 1, [(V.old .nilFunc)], 8, none⟩),
  (185, ⟨.arr 13 3, 13, [(V.int .i64 0), (V.int .i64 0), (V.int .i64 0), (V.int .i64 0), (V.int .i64 0), (V.int .i64 0), (V.int .i64 0), (V.int .i64 0), (V.int .i64 0), (V.int .i64 0), (V.int .i64 0), (V.int .i64 0), (V.int .i64 0)], 104, none⟩),
  (186, ⟨.arr 64 5, 64, [(V.int .u8 0), (V.int .u8 0), (V.int .u8 0), (V.int .u8 0), (V.int .u8 0), (V.int .u8 0), (V.int .u8 0), (V.int .u8 0), (V.int .u8 0), (V.int .u8 0), (V.int .u8 0), (V.int .u8 0), (V.int .u8 0), (V.int .u8 0), (V.int .u8 0), (V.int .u8 0), (V.int .u8 0), (V.int .u8 0), (V.int .u8 0), (V.int .u8 0), (V.int .u8 0), (V.int .u8 0), (V.int .u8 0), (V.int .u8 0), (V.int .u8 0), (V.int .u8 0), (V.int .u8 0), (V.int .u8 0), (V.int .u8 0), (V.int .u8 0), (V.int .u8 0), (V.int .u8 0), (V.int .u8 0), (V.int .u8 0), (V.int .u8 0), (V.int .u8 0), (V.int .u8 0), (V.int .u8 0), (V.int .u8 0), (V.int .u8 0), (V.int .u8 0), (V.int .u8 0), (V.int .u8 0), (V.int .u8 0), (V.int .u8 0), (V.int .u8 0), (V.int .u8 0), (V.int .u8 0), (V.int .u8 0), (V.int .u8 0), (V.int .u8 0), (V.int .u8 0), (V.int .u8 0), (V.int .u8 0), (V.int .u8 0), (V.int .u8 0), (V.int .u8 0), (V.int .u8 0), (V.int .u8 0), (V.int .u8 0), (V.int .u8 0), (V.int .u8 0), (V.int .u8 0), (V.int .u8 0)], 64, none⟩)]
def endsL : List Int := [0, 59, 0, 23, 1, 31, 1, 12, 0, 6]
def longL : List Int := [0, 31, 28, 31, 30, 31, 30, 31, 31, 30, 31, 30, 31]
def dbL : List Int := [0, 1, 56, 2, 57, 49, 28, 3, 61, 58, 42, 50, 38, 29, 17, 4, 62, 47, 59, 36, 45, 43, 51, 22, 53, 39, 33, 30, 24, 18, 12, 5, 63, 55, 48, 27, 60, 41, 37, 16, 46, 35, 44, 21, 52, 32, 23, 11, 54, 26, 40, 15, 34, 20, 31, 10, 25, 14, 19, 9, 13, 8, 7, 6]
def gsT : List (Nat × CF) := [(0, .int .i64 endsL), (1, .int .i64 longL), (2, .int .u8 dbL)]
def eqT : List (Nat × (List V → List V → Option Bool)) := eqsOf tyT [25, 46, 48, 63]
def okT : FuncId → Nat → Bool := okTab [(10, [0, 1, 2, 3, 6, 7, 8, 9, 10, 11, 12, 13, 14, 15, 16, 17, 18, 19, 21, 40, 46, 61, 63, 64, 65, 87, 122]), (16, [0, 1, 4, 5, 10, 12, 13, 14, 24]), (17, [0, 1, 2, 3, 4, 5]), (18, [0, 1, 2, 3, 4, 5]), (21, [0, 1, 2, 4]), (23, [0, 1, 2, 3, 4, 7, 8, 9, 10, 18]), (25, [0, 1, 2, 3, 4, 35]), (27, [0, 1, 2, 3, 4, 6, 45, 78, 79, 80, 81, 96, 99]), (28, [0, 1, 2, 3, 6, 7, 8, 9, 10, 11, 13, 25, 35, 36, 37, 38]), (29, [0, 1, 2, 3, 4, 8, 9, 10, 11, 12, 13, 14, 15, 29, 61, 96]), (30, [0, 1, 2, 3, 4, 5, 6, 7, 15, 24]), (31, [0, 1, 2, 4, 5, 6, 7, 14]), (32, [0, 1, 2, 4, 5, 6, 7, 14]), (33, [0, 1, 2, 3, 4, 20, 42, 50]), (34, [0, 1, 2, 3, 4, 6, 7, 8, 9, 11, 12, 13, 14, 18, 25, 36, 51]), (39, [0, 1, 2, 3, 4, 7, 8, 9, 10, 11, 12, 13, 16, 19, 20, 25, 32, 36, 37, 40]), (40, [0, 2]), (41, [0, 1, 3]), (42, [0, 1, 3]), (49, [0, 2]), (50, [0, 1, 4, 5, 9]), (52, [0, 1, 2, 3, 4, 5, 6, 7, 8, 9, 10, 39, 58]), (53, [0, 1, 4]), (54, [0, 1, 2]), (55, [0, 2, 4]), (56, [0, 1, 2, 3, 7, 20]), (57, [0, 2, 3, 7, 19]), (58, [0, 2]), (59, [0, 1, 2, 4, 5, 6]), (60, [0, 1, 2]), (61, [0, 1, 2, 6, 19]), (62, [0, 2]), (63, [0, 1, 3]), (64, [0, 1, 2, 4, 5, 6, 22]), (65, [0, 1]), (66, [0, 1, 2]), (67, [0, 1, 2, 3]), (68, [0, 1, 2, 4, 5, 6, 13]), (69, [0, 1, 2, 3, 6, 9]), (70, [0, 2, 3, 7, 26]), (76, [0, 1, 2]), (77, [0, 1, 2, 3, 4, 5, 6]), (81, [0, 2]), (82, [0, 1, 4]), (83, [0, 2, 3, 7]), (84, [0, 2, 3, 4, 6, 7, 8, 9, 12, 20, 21, 22, 48, 62]), (85, [0, 1, 2, 3, 4, 5, 6, 10, 18]), (86, [0, 2, 3, 6]), (87, [0, 2]), (88, [0, 1, 4]), (89, [0, 1, 2, 3]), (90, [0, 1, 2]), (105, [0, 1, 3, 4, 5]), (106, [0, 1, 2, 3, 4, 5, 6, 10, 11, 15, 16, 27]), (107, [0, 1, 2, 3, 4]), (109, [0, 1, 4, 5, 6, 7, 8, 9, 10, 11, 16]), (110, [0, 1, 4]), (111, [0, 1, 2, 4, 5, 6, 7]), (112, [0, 2]), (113, [0, 2]), (114, [0, 1, 2, 25]), (115, [0, 1, 3, 4, 6]), (116, [0, 1, 2, 4, 5]), (117, [0, 1, 2, 4, 5]), (118, [0, 1, 3, 4]), (119, [0, 1, 3, 4]), (127, [0, 1, 2, 4, 5, 9, 10, 11, 13, 25]), (128, [0, 2, 3, 4, 9, 10]), (129, [0, 1, 2, 6, 7, 8, 9, 26, 34]), (130, [0, 1, 4, 5, 11, 20]), (132, [0, 2]), (133, [0, 1, 2]), (134, [0, 2]), (135, [0, 1, 2, 3]), (136, [0, 2]), (137, [0, 1, 4, 13]), (138, [0, 2, 4]), (139, [0, 1, 3])]
def lpT : Nat → FuncId → Nat → Nat → Lp := fun _ _ _ _ => .unroll 70
theorem lp_ok {c : Cx} : LpOk c okT lpT := fun _ _ _ _ _ _ _ h => (by cases h)
theorem ty_ok {c : Cx} (h : c.ty = tyT) : TyOk Tryd.prog c := TyOk_of (by rw [h]; kernel_rfl)
theorem eq_ok {c : Cx} (h : c.eqs = eqT) : EqOk Tryd.prog c := eqsOf_ok (ty := tyT) (ss := [25, 46, 48, 63]) (ty_ok (c := ⟨tyT, [], [], []⟩) rfl) (by kernel_rfl) h
theorem follows_ok : Tryd.prog.follows .mixedOrders = true := by kernel_rfl
noncomputable def q16_cx : Cx := ⟨tyT, [(16, .body Tryd.f16)], gsT, eqT⟩
theorem q16_fns : FnsOk Tryd.prog q16_cx := Fns_assoc ⟨body_ent Tryd.func16 (by kernel_rfl) (by kernel_rfl), trivial⟩
noncomputable def q16_0_body : Code := subC [1, 1, 0, 1, 0, 0] (bodyOf Tryd.f16)
abbrev slices_Equal__int64_int64_l0_Z : Type := List Int × List Int × Int × Int
abbrev slices_Equal__int64_int64_l0_Y : Type := (Unit) ⊕ (Unit)
abbrev q16_0_C : Type := Unit
abbrev q16_0_Q : Type := Unit
noncomputable def q16_0_st (z1 : slices_Equal__int64_int64_l0_Z) (z1q : q16_0_Q) (z1c : q16_0_C) : S := ⟨[(0, (V.sl (.int .i64) (z1.1) none)), (1, (V.sl (.int .i64) (z1.2.1) none)), (12, (vi (z1.2.2.1))), (13, (vi (z1.2.2.2)))], [], []⟩
def q16_0_Kp (K : Ret → S → Prop) (z1q : q16_0_Q) (y2 : slices_Equal__int64_int64_l0_Y) : Prop := sume (fun y2 => K .ret ⟨[(4, (vb false))], [], []⟩) (fun y2 => K (.exit 0) ⟨[], [], []⟩) y2
def q16_0_K (K : Ret → S → Prop) (z1 : slices_Equal__int64_int64_l0_Z) (z1q : q16_0_Q) (y2 : slices_Equal__int64_int64_l0_Y) : Prop := q16_0_Kp K z1q y2
def slices_Equal__int64_int64_l0 : Nat → slices_Equal__int64_int64_l0_Z → slices_Equal__int64_int64_l0_Y → Prop
  | 0, _, _ => False
  | k + 1, (z1x0, z1x1, z1x2, z1x3), y2_ => (br (decide (z1x3 < z1x2)) (req ((decide (0 ≤ z1x3)) && (decide (z1x3 < (((List.length z1x0) : Nat) : Int)))) (req ((decide (0 ≤ z1x3)) && (decide (z1x3 < (((List.length z1x1) : Nat) : Int)))) (br ((List.getD z1x0 (Int.toNat z1x3) 0) != (List.getD z1x1 (Int.toNat z1x3) 0)) ((Sum.inl ()) = y2_) (slices_Equal__int64_int64_l0 k (z1x0, z1x1, z1x2, (IntKind.wrap .i64 (z1x3 + 1))) y2_)))) ((Sum.inr ()) = y2_))
def slices_Equal__int64_int64_l0_L (z : slices_Equal__int64_int64_l0_Z) (y : slices_Equal__int64_int64_l0_Y) : Prop := ∃ k, slices_Equal__int64_int64_l0 k z y
noncomputable def q16_0_lp : Lp := .auto none q16_0_body (loopG 0 q16_0_st (fun z y => ∃ k, slices_Equal__int64_int64_l0 k z y) q16_0_K)
noncomputable def q16_lp : Nat → FuncId → Nat → Nat → Lp := lpTab [(16, 4, 0, 0, q16_0_lp)]
theorem q16_0_round (n : Nat) (z1x0 : List Int) (z1x1 : List Int) (z1x2 : Int) (z1x3 : Int) (K : Ret → S → Prop) (next : S → Prop) : acode q16_cx 16 (acall q16_cx okT q16_lp (n + 0)) (okT 16) (q16_lp (n + 0) 16) none q16_0_body (iterK (wkK 0 K) next) (q16_0_st (z1x0, z1x1, z1x2, z1x3) () ()) =
    (req true (br (decide (z1x3 < z1x2)) (rqn 5 (req ((decide (0 ≤ z1x3)) && (decide (z1x3 < (((List.length z1x0) : Nat) : Int)))) (rqn 3 (req ((decide (0 ≤ z1x3)) && (decide (z1x3 < (((List.length z1x1) : Nat) : Int)))) (rqn 2 (br ((List.getD z1x0 (Int.toNat z1x3) 0) != (List.getD z1x1 (Int.toNat z1x3) 0)) (req true (wkK 0 K .ret ⟨[(0, (V.sl (.int .i64) z1x0 none)), (1, (V.sl (.int .i64) z1x1 none)), (12, (vi z1x2)), (13, (vi z1x3)), (14, (vb (decide (z1x3 < z1x2)))), (5, (vi z1x3)), (24, (vb ((List.getD z1x0 (Int.toNat z1x3) 0) != (List.getD z1x1 (Int.toNat z1x3) 0)))), (4, (vb false))], [], []⟩)) (rqn 2 (next ⟨[(0, (V.sl (.int .i64) z1x0 none)), (1, (V.sl (.int .i64) z1x1 none)), (12, (vi z1x2)), (13, (vi (wI (z1x3 + 1)))), (14, (vb (decide (z1x3 < z1x2)))), (5, (vi z1x3)), (24, (vb ((List.getD z1x0 (Int.toNat z1x3) 0) != (List.getD z1x1 (Int.toNat z1x3) 0))))], [], []⟩)))))))) (wkK 0 K (.exit 0) ⟨[(0, (V.sl (.int .i64) z1x0 none)), (1, (V.sl (.int .i64) z1x1 none)), (12, (vi z1x2)), (13, (vi z1x3)), (14, (vb (decide (z1x3 < z1x2))))], [], []⟩))) := by kernel_rfl
theorem q16_0_step (n k : Nat) (z1x0 : List Int) (z1x1 : List Int) (z1x2 : Int) (z1x3 : Int) (y2_ : slices_Equal__int64_int64_l0_Y) (K : Ret → S → Prop) (h : slices_Equal__int64_int64_l0 (k + 1) (z1x0, z1x1, z1x2, z1x3) y2_) (hK : q16_0_Kp K () y2_) (next : S → Prop) (hnext : ∀ z' s', slices_Equal__int64_int64_l0 k z' y2_ → q16_0_K K z' () y2_ → (∃ cc', wk 0 s' (q16_0_st z' () cc')) → next s') : acode q16_cx 16 (acall q16_cx okT q16_lp (n + 0)) (okT 16) (q16_lp (n + 0) 16) none q16_0_body (iterK (wkK 0 K) next) (q16_0_st (z1x0, z1x1, z1x2, z1x3) () ()) := by
  refine cast (q16_0_round n z1x0 z1x1 z1x2 z1x3 K next).symm ?_
  simp only [slices_Equal__int64_int64_l0] at h
  refine req_intro rfl ?_
  refine br_both h (fun hb h => ?_) (fun hb h => ?_)
  ·refine rqn_intro 5 ?_
   obtain ⟨q, h⟩ := req_of h
   refine req_intro (band (band_l q) (band_r q)) ?_
   refine rqn_intro 3 ?_
   obtain ⟨q, h⟩ := req_of h
   refine req_intro (band (band_l q) (band_r q)) ?_
   refine rqn_intro 2 ?_
   refine br_both h (fun hb h => ?_) (fun hb h => ?_)
   ·refine req_intro rfl ?_
    subst h
    refine ⟨_, ?_, hK⟩
    exact wk_of (Or.inr ⟨⟨Or.inl rfl, trivial⟩, trivial, rfl, rfl, rfl⟩)
   ·refine rqn_intro 2 ?_
    exact hnext (z1x0, z1x1, z1x2, (wI (z1x3 + 1))) _ h hK ⟨(), wk_of (Or.inr ⟨⟨Or.inl rfl, Or.inl rfl, Or.inl rfl, Or.inl rfl, trivial⟩, trivial, rfl, rfl, rfl⟩)⟩
  ·subst h
   refine ⟨_, ?_, hK⟩
   exact wk_of (Or.inr ⟨trivial, trivial, rfl, rfl, rfl⟩)
theorem q16_0_ok (n : Nat) : Owed q16_cx okT 16 q16_lp (n + 0) q16_0_lp := loop_owed (fun z y h => h) fun k zz qq cc yy K h hK next hnext => q16_0_step n k zz.1 zz.2.1 zz.2.2.1 zz.2.2.2 yy K h hK next hnext
theorem q16_lpok : LpOk q16_cx okT q16_lp := LpOk_tab ⟨q16_0_ok, trivial⟩
def slices_Equal__int64_int64_R (a0 : List Int) (a1 : List Int) (y : Bool) : Prop :=
  (br ((((List.length a0) : Nat) : Int) != (((List.length a1) : Nat) : Int)) (false = y) (∃ y4 : slices_Equal__int64_int64_l0_Y, slices_Equal__int64_int64_l0_L (a0, a1, (((List.length a0) : Nat) : Int), 0) y4 ∧ sume (fun y4 => (false = y)) (fun y4 => (true = y)) y4))
theorem q16_tree (a0 : List Int) (a1 : List Int) (y : Bool) : acall q16_cx okT q16_lp 60 (.fn 16 [] []) [(V.sl (.int .i64) a0 none), (V.sl (.int .i64) a1 none)] [] (leafK .bool y) =
    (rqn 6 (br ((((List.length a0) : Nat) : Int) != (((List.length a1) : Nat) : Int)) (req true (req true (false = y))) (rqn 3 (((none : Option Nat) = (none : Option Nat)) ∧ (q16_0_body = q16_0_body) ∧ ∃ z3 : slices_Equal__int64_int64_l0_Z, ∃ z3q : q16_0_Q, ∃ y4 : slices_Equal__int64_int64_l0_Y, (0 = 0) ∧ (∃ zc : q16_0_C, wk 0 ⟨[(0, (V.sl (.int .i64) a0 none)), (1, (V.sl (.int .i64) a1 none)), (4, (vb false)), (10, (vb ((((List.length a0) : Nat) : Int) != (((List.length a1) : Nat) : Int)))), (12, (vi (((List.length a0) : Nat) : Int))), (13, (vi 0))], [], []⟩ (q16_0_st z3 z3q zc)) ∧ (∃ k, slices_Equal__int64_int64_l0 k z3 y4) ∧ sume (fun y4 => (req true (false = y))) (fun y4 => (req true (req true (true = y)))) y4)))) := by kernel_rfl
theorem q16_run (a0 : List Int) (a1 : List Int) (y : Bool) (h : slices_Equal__int64_int64_R a0 a1 y) : acall q16_cx okT q16_lp 60 (.fn 16 [] []) [(V.sl (.int .i64) a0 none), (V.sl (.int .i64) a1 none)] [] (leafK .bool y) := by
  refine cast (q16_tree a0 a1 y).symm ?_
  unfold slices_Equal__int64_int64_R at h
  refine rqn_intro 6 ?_
  refine br_both h (fun hb h => ?_) (fun hb h => ?_)
  ·refine req_intro rfl ?_
   exact req_intro rfl h
  ·refine rqn_intro 3 ?_
   obtain ⟨y4, ry4, h⟩ := h
   refine ⟨rfl, rfl, (a0, a1, (((List.length a0) : Nat) : Int), 0), (), y4, rfl, ⟨(), wk_of (Or.inr ⟨⟨Or.inl rfl, Or.inl rfl, Or.inl rfl, Or.inl rfl, trivial⟩, trivial, rfl, rfl, rfl⟩)⟩, ry4, ?_⟩
   refine sume_both h (fun y4 h => ?_) (fun y4 h => ?_)
   ·exact req_intro rfl h
   ·refine req_intro rfl ?_
    exact req_intro rfl h
theorem slices_Equal__int64_int64_ok : FxOk Tryd.prog gsT 16 (.cons (.sl (.int .i64)) (.one (.sl (.int .i64)))) .bool fun x y => slices_Equal__int64_int64_R (x.1) (x.2) y := fx_of (c := q16_cx) (ty_ok rfl) (eq_ok rfl) q16_fns follows_ok (ok := okT) (lp := q16_lp) (n := 60) q16_lpok (enters Tryd.func16 (by kernel_rfl) rfl) (fun y => ⟨_, rfl⟩) fun x y h => q16_run _ _ y h
noncomputable def q81_cx : Cx := ⟨tyT, [(81, .body Tryd.f81)], gsT, eqT⟩
theorem q81_fns : FnsOk Tryd.prog q81_cx := Fns_assoc ⟨body_ent Tryd.func81 (by kernel_rfl) (by kernel_rfl), trivial⟩
def field_there_R (a0 : Int) (y : Bool) : Prop :=
  (br (decide (a0 ≥ 0)) ((decide (a0 < 5)) = y) (false = y))
theorem q81_tree (a0 : Int) (y : Bool) : acall q81_cx okT lpT 60 (.fn 81 [] []) [(V.int .i64 a0)] [] (leafK .bool y) =
    (rqn 4 (br (decide (a0 ≥ 0)) (rqn 4 (req true ((decide (a0 < 5)) = y))) (rqn 2 (req true (false = y))))) := by kernel_rfl
theorem q81_run (a0 : Int) (y : Bool) (h : field_there_R a0 y) : acall q81_cx okT lpT 60 (.fn 81 [] []) [(V.int .i64 a0)] [] (leafK .bool y) := by
  refine cast (q81_tree a0 y).symm ?_
  unfold field_there_R at h
  refine rqn_intro 4 ?_
  refine br_both h (fun hb h => ?_) (fun hb h => ?_)
  ·refine rqn_intro 4 ?_
   exact req_intro rfl h
  ·refine rqn_intro 2 ?_
   exact req_intro rfl h
theorem field_there_ok : FxOk Tryd.prog gsT 81 (.one (.int .i64)) .bool fun x y => field_there_R x y := fx_of (c := q81_cx) (ty_ok rfl) (eq_ok rfl) q81_fns follows_ok (ok := okT) (lp := lpT) (n := 60) lp_ok (enters Tryd.func81 (by kernel_rfl) rfl) (fun y => ⟨_, rfl⟩) fun x y h => q81_run _ y h
noncomputable def q82_cx : Cx := ⟨tyT, [(82, .body Tryd.f82),
  (109, .body Tryd.f109),
  (110, .body Tryd.f110)], gsT, eqT⟩
theorem q82_fns : FnsOk Tryd.prog q82_cx := Fns_assoc ⟨body_ent Tryd.func82 (by kernel_rfl) (by kernel_rfl), body_ent Tryd.func109 (by kernel_rfl) (by kernel_rfl), body_ent Tryd.func110 (by kernel_rfl) (by kernel_rfl), trivial⟩
noncomputable def q82_0_body : Code := subC [1, 1, 0, 1, 0, 0] (bodyOf Tryd.f109)
abbrev mask_Less_l0_Z : Type := Int × Int × Int × Int
abbrev mask_Less_l0_Y : Type := Int
abbrev q82_0_C : Type := Unit
abbrev q82_0_Q : Type := Unit
noncomputable def q82_0_st (z1 : mask_Less_l0_Z) (z1q : q82_0_Q) (z1c : q82_0_C) : S := ⟨[(1, (V.fn 110 [] [])), (5, (vu (z1.2.2.1))), (8, (V.slc 0 0 2 2)), (9, (vi 2)), (10, (vi (z1.2.2.2)))], [(Blk.cells [(vu (z1.1)), (vu (z1.2.1))])], []⟩
def q82_0_Kp (K : Ret → S → Prop) (z1x0 : Int) (z1x1 : Int) (z1q : q82_0_Q) (y2 : mask_Less_l0_Y) : Prop := K (.exit 0) ⟨[(5, (vu y2))], [(Blk.cells [(vu z1x0), (vu z1x1)])], []⟩
def q82_0_K (K : Ret → S → Prop) (z1 : mask_Less_l0_Z) (z1q : q82_0_Q) (y2 : mask_Less_l0_Y) : Prop := q82_0_Kp K (z1.1) (z1.2.1) z1q y2
def mask_Less_l0 : Nat → mask_Less_l0_Z → mask_Less_l0_Y → Prop
  | 0, _, _ => False
  | k + 1, (z1x0, z1x1, z1x2, z1x3), y2_ => (br (decide (z1x3 < 2)) (req ((decide (0 ≤ z1x3)) && (decide (z1x3 < 2))) (req (Nat.blt (offN 0 z1x3 1) 2) (br (z1x3 == 0) (mask_Less_l0 k (z1x0, z1x1, (List.getD ([z1x0, z1x1] : List Int) (offN 0 z1x3 1) 0), (IntKind.wrap .i64 (z1x3 + 1))) y2_) (mask_Less_l0 k (z1x0, z1x1, (IntKind.wrap .u64 (BitVec.toNat (BitVec.ofInt (IntKind.bits .u64) z1x2 &&& ~~~ BitVec.ofInt (IntKind.bits .u64) (List.getD ([z1x0, z1x1] : List Int) (offN 0 z1x3 1) 0)))), (IntKind.wrap .i64 (z1x3 + 1))) y2_)))) (z1x2 = y2_))
def mask_Less_l0_L (z : mask_Less_l0_Z) (y : mask_Less_l0_Y) : Prop := ∃ k, mask_Less_l0 k z y
noncomputable def q82_0_lp : Lp := .auto none q82_0_body (loopG 1 q82_0_st (fun z y => ∃ k, mask_Less_l0 k z y) q82_0_K)
noncomputable def q82_lp : Nat → FuncId → Nat → Nat → Lp := lpTab [(109, 3, 1, 1, q82_0_lp)]
theorem q82_0_round (n : Nat) (z1x0 : Int) (z1x1 : Int) (z1x2 : Int) (z1x3 : Int) (K : Ret → S → Prop) (next : S → Prop) : acode q82_cx 109 (acall q82_cx okT q82_lp (n + 1)) (okT 109) (q82_lp (n + 1) 109) none q82_0_body (iterK (wkK 1 K) next) (q82_0_st (z1x0, z1x1, z1x2, z1x3) () ()) =
    (req true (br (decide (z1x3 < 2)) (req true (req ((decide (0 ≤ z1x3)) && (decide (z1x3 < 2))) (req (Nat.blt (offN 0 z1x3 1) 2) (rqn 4 (br (z1x3 == 0) (rqn 4 (next ⟨[(1, (V.fn 110 [] [])), (5, (vu (List.getD ([z1x0, z1x1] : List Int) (offN 0 z1x3 1) 0))), (8, (V.slc 0 0 2 2)), (9, (vi 2)), (10, (vi (wI (z1x3 + 1)))), (11, (vb (decide (z1x3 < 2)))), (6, (vi z1x3)), (7, (vu (List.getD ([z1x0, z1x1] : List Int) (offN 0 z1x3 1) 0))), (16, (vb (z1x3 == 0)))], [(Blk.cells [(vu z1x0), (vu z1x1)])], []⟩)) (rqn 11 (next ⟨[(1, (V.fn 110 [] [])), (5, (vu (IntKind.wrap .u64 (BitVec.toNat (BitVec.ofInt (IntKind.bits .u64) z1x2 &&& ~~~ BitVec.ofInt (IntKind.bits .u64) (List.getD ([z1x0, z1x1] : List Int) (offN 0 z1x3 1) 0)))))), (8, (V.slc 0 0 2 2)), (9, (vi 2)), (10, (vi (wI (z1x3 + 1)))), (11, (vb (decide (z1x3 < 2)))), (6, (vi z1x3)), (7, (vu (List.getD ([z1x0, z1x1] : List Int) (offN 0 z1x3 1) 0))), (16, (vb (z1x3 == 0)))], [(Blk.cells [(vu z1x0), (vu z1x1)])], []⟩))))))) (wkK 1 K (.exit 0) ⟨[(1, (V.fn 110 [] [])), (5, (vu z1x2)), (8, (V.slc 0 0 2 2)), (9, (vi 2)), (10, (vi z1x3)), (11, (vb (decide (z1x3 < 2))))], [(Blk.cells [(vu z1x0), (vu z1x1)])], []⟩))) := by kernel_rfl
theorem q82_0_step (n k : Nat) (z1x0 : Int) (z1x1 : Int) (z1x2 : Int) (z1x3 : Int) (y2_ : mask_Less_l0_Y) (K : Ret → S → Prop) (h : mask_Less_l0 (k + 1) (z1x0, z1x1, z1x2, z1x3) y2_) (hK : q82_0_Kp K z1x0 z1x1 () y2_) (next : S → Prop) (hnext : ∀ z' s', mask_Less_l0 k z' y2_ → q82_0_K K z' () y2_ → (∃ cc', wk 1 s' (q82_0_st z' () cc')) → next s') : acode q82_cx 109 (acall q82_cx okT q82_lp (n + 1)) (okT 109) (q82_lp (n + 1) 109) none q82_0_body (iterK (wkK 1 K) next) (q82_0_st (z1x0, z1x1, z1x2, z1x3) () ()) := by
  refine cast (q82_0_round n z1x0 z1x1 z1x2 z1x3 K next).symm ?_
  simp only [mask_Less_l0] at h
  refine req_intro rfl ?_
  refine br_both h (fun hb h => ?_) (fun hb h => ?_)
  ·refine req_intro rfl ?_
   obtain ⟨q, h⟩ := req_of h
   refine req_intro (band (band_l q) (band_r q)) ?_
   obtain ⟨q, h⟩ := req_of h
   refine req_intro q ?_
   refine rqn_intro 4 ?_
   refine br_both h (fun hb h => ?_) (fun hb h => ?_)
   ·refine rqn_intro 4 ?_
    exact hnext (z1x0, z1x1, (List.getD ([z1x0, z1x1] : List Int) (offN 0 z1x3 1) 0), (wI (z1x3 + 1))) _ h hK ⟨(), wk_of (Or.inr ⟨⟨Or.inl rfl, Or.inl rfl, Or.inl rfl, Or.inl rfl, Or.inl rfl, trivial⟩, ⟨Or.inl rfl, trivial⟩, rfl, rfl, rfl⟩)⟩
   ·refine rqn_intro 11 ?_
    exact hnext (z1x0, z1x1, (IntKind.wrap .u64 (BitVec.toNat (BitVec.ofInt (IntKind.bits .u64) z1x2 &&& ~~~ BitVec.ofInt (IntKind.bits .u64) (List.getD ([z1x0, z1x1] : List Int) (offN 0 z1x3 1) 0)))), (wI (z1x3 + 1))) _ h hK ⟨(), wk_of (Or.inr ⟨⟨Or.inl rfl, Or.inl rfl, Or.inl rfl, Or.inl rfl, Or.inl rfl, trivial⟩, ⟨Or.inl rfl, trivial⟩, rfl, rfl, rfl⟩)⟩
  ·subst h
   refine ⟨_, ?_, hK⟩
   exact wk_of (Or.inr ⟨⟨Or.inl rfl, trivial⟩, ⟨Or.inl rfl, trivial⟩, rfl, rfl, rfl⟩)
theorem q82_0_ok (n : Nat) : Owed q82_cx okT 109 q82_lp (n + 1) q82_0_lp := loop_owed (fun z y h => h) fun k zz qq cc yy K h hK next hnext => q82_0_step n k zz.1 zz.2.1 zz.2.2.1 zz.2.2.2 yy K h hK next hnext
theorem q82_lpok : LpOk q82_cx okT q82_lp := LpOk_tab ⟨q82_0_ok, trivial⟩
def mask_Less_R (a0 : Int) (a1 : Int) (y : Int) : Prop :=
  (∃ y4 : mask_Less_l0_Y, mask_Less_l0_L (a0, a1, 0, 0) y4 ∧ (y4 = y))
theorem q82_tree (a0 : Int) (a1 : Int) (y : Int) : acall q82_cx okT q82_lp 60 (.fn 82 [] []) [(V.int .u64 a0), (V.int .u64 a1)] [] (leafK (.int .u64) y) =
    (rqn 8 (((none : Option Nat) = (none : Option Nat)) ∧ (q82_0_body = q82_0_body) ∧ ∃ z3 : mask_Less_l0_Z, ∃ z3q : q82_0_Q, ∃ y4 : mask_Less_l0_Y, (1 = 1) ∧ (∃ zc : q82_0_C, wk 1 ⟨[(0, (V.slc 0 0 2 2)), (1, (V.fn 110 [] [])), (4, (vu 0)), (5, (vu 0)), (8, (V.slc 0 0 2 2)), (9, (vi 2)), (10, (vi 0))], [(Blk.cells [(vu a0), (vu a1)])], []⟩ (q82_0_st z3 z3q zc)) ∧ (∃ k, mask_Less_l0 k z3 y4) ∧ (rqn 3 (req true (y4 = y))))) := by kernel_rfl
theorem q82_run (a0 : Int) (a1 : Int) (y : Int) (h : mask_Less_R a0 a1 y) : acall q82_cx okT q82_lp 60 (.fn 82 [] []) [(V.int .u64 a0), (V.int .u64 a1)] [] (leafK (.int .u64) y) := by
  refine cast (q82_tree a0 a1 y).symm ?_
  unfold mask_Less_R at h
  refine rqn_intro 8 ?_
  obtain ⟨y4, ry4, h⟩ := h
  refine ⟨rfl, rfl, (a0, a1, 0, 0), (), y4, rfl, ⟨(), wk_of (Or.inr ⟨⟨Or.inl rfl, Or.inl rfl, Or.inl rfl, Or.inl rfl, Or.inl rfl, trivial⟩, ⟨Or.inl rfl, trivial⟩, rfl, rfl, rfl⟩)⟩, ry4, ?_⟩
  refine rqn_intro 3 ?_
  exact req_intro rfl h
theorem mask_Less_ok : FxOk Tryd.prog gsT 82 (.cons (.int .u64) (.one (.int .u64))) (.int .u64) fun x y => mask_Less_R (x.1) (x.2) y := fx_of (c := q82_cx) (ty_ok rfl) (eq_ok rfl) q82_fns follows_ok (ok := okT) (lp := q82_lp) (n := 60) q82_lpok (enters Tryd.func82 (by kernel_rfl) rfl) (fun y => ⟨_, rfl⟩) fun x y h => q82_run _ _ y h
noncomputable def q87_cx : Cx := ⟨tyT, [(87, .body Tryd.f87)], gsT, eqT⟩
theorem q87_fns : FnsOk Tryd.prog q87_cx := Fns_assoc ⟨body_ent Tryd.func87 (by kernel_rfl) (by kernel_rfl), trivial⟩
def mask_may_R (a0 : Int) (y : Bool) : Prop :=
  (br (decide (a0 ≥ 0)) ((decide (a0 ≤ 63)) = y) (false = y))
theorem q87_tree (a0 : Int) (y : Bool) : acall q87_cx okT lpT 60 (.fn 87 [] []) [(V.int .i64 a0)] [] (leafK .bool y) =
    (rqn 4 (br (decide (a0 ≥ 0)) (rqn 4 (req true ((decide (a0 ≤ 63)) = y))) (rqn 2 (req true (false = y))))) := by kernel_rfl
theorem q87_run (a0 : Int) (y : Bool) (h : mask_may_R a0 y) : acall q87_cx okT lpT 60 (.fn 87 [] []) [(V.int .i64 a0)] [] (leafK .bool y) := by
  refine cast (q87_tree a0 y).symm ?_
  unfold mask_may_R at h
  refine rqn_intro 4 ?_
  refine br_both h (fun hb h => ?_) (fun hb h => ?_)
  ·refine rqn_intro 4 ?_
   exact req_intro rfl h
  ·refine rqn_intro 2 ?_
   exact req_intro rfl h
theorem mask_may_ok : FxOk Tryd.prog gsT 87 (.one (.int .i64)) .bool fun x y => mask_may_R x y := fx_of (c := q87_cx) (ty_ok rfl) (eq_ok rfl) q87_fns follows_ok (ok := okT) (lp := lpT) (n := 60) lp_ok (enters Tryd.func87 (by kernel_rfl) rfl) (fun y => ⟨_, rfl⟩) fun x y h => q87_run _ y h
noncomputable def q134_cx : Cx := ⟨tyT, [(134, .body Tryd.f134)], gsT, eqT⟩
theorem q134_fns : FnsOk Tryd.prog q134_cx := Fns_assoc ⟨body_ent Tryd.func134 (by kernel_rfl) (by kernel_rfl), trivial⟩
def mask_one_R (a0 : Int) (y : Int) : Prop :=
  (req (decide (0 ≤ (IntKind.wrap .u64 a0))) ((IntKind.wrap .u64 (1 * 2 ^ (min (Int.toNat (IntKind.wrap .u64 a0)) (IntKind.bits .u64)))) = y))
theorem q134_tree (a0 : Int) (y : Int) : acall q134_cx okT lpT 60 (.fn 134 [] []) [(V.int .i64 a0)] [] (leafK (.int .u64) y) =
    (rqn 3 (req (decide (0 ≤ (IntKind.wrap .u64 a0))) (req true (req true ((IntKind.wrap .u64 (1 * 2 ^ (min (Int.toNat (IntKind.wrap .u64 a0)) (IntKind.bits .u64)))) = y))))) := by kernel_rfl
theorem q134_run (a0 : Int) (y : Int) (h : mask_one_R a0 y) : acall q134_cx okT lpT 60 (.fn 134 [] []) [(V.int .i64 a0)] [] (leafK (.int .u64) y) := by
  refine cast (q134_tree a0 y).symm ?_
  unfold mask_one_R at h
  refine rqn_intro 3 ?_
  obtain ⟨q, h⟩ := req_of h
  refine req_intro q ?_
  refine req_intro rfl ?_
  exact req_intro rfl h
theorem mask_one_ok : FxOk Tryd.prog gsT 134 (.one (.int .i64)) (.int .u64) fun x y => mask_one_R x y := fx_of (c := q134_cx) (ty_ok rfl) (eq_ok rfl) q134_fns follows_ok (ok := okT) (lp := lpT) (n := 60) lp_ok (enters Tryd.func134 (by kernel_rfl) rfl) (fun y => ⟨_, rfl⟩) fun x y h => q134_run _ y h
noncomputable def q129_cx : Cx := ⟨tyT, [(87, .fx (.one (.int .i64)) .bool fun x y => mask_may_R x y),
  (129, .body Tryd.f129),
  (134, .fx (.one (.int .i64)) (.int .u64) fun x y => mask_one_R x y)], gsT, eqT⟩
theorem q129_fns : FnsOk Tryd.prog q129_cx := Fns_assoc ⟨mask_may_ok, body_ent Tryd.func129 (by kernel_rfl) (by kernel_rfl), mask_one_ok, trivial⟩
noncomputable def q129_0_body : Code := subC [1, 1, 1, 0, 1, 0, 0] (bodyOf Tryd.f129)
abbrev mask_Span_l0_Z : Type := Int × Int × Int × Int
abbrev mask_Span_l0_Y : Type := Int
abbrev q129_0_C : Type := Unit
abbrev q129_0_Q : Type := Unit
noncomputable def q129_0_st (z4 : mask_Span_l0_Z) (z4q : q129_0_Q) (z4c : q129_0_C) : S := ⟨[(1, (vi (z4.1))), (2, (vi (z4.2.1))), (8, (vu (z4.2.2.1))), (9, (vi (z4.2.2.2)))], [], []⟩
def q129_0_Kp (K : Ret → S → Prop) (z4q : q129_0_Q) (y5 : mask_Span_l0_Y) : Prop := K (.exit 0) ⟨[(8, (vu y5))], [], []⟩
def q129_0_K (K : Ret → S → Prop) (z4 : mask_Span_l0_Z) (z4q : q129_0_Q) (y5 : mask_Span_l0_Y) : Prop := q129_0_Kp K z4q y5
def mask_Span_l0 : Nat → mask_Span_l0_Z → mask_Span_l0_Y → Prop
  | 0, _, _ => False
  | k + 1, (z4x0, z4x1, z4x2, z4x3), y5_ => (br (decide (z4x3 ≤ (IntKind.wrap .i64 (z4x0 - z4x1)))) (∃ y6 : Int, (mask_one_R (IntKind.wrap .i64 (z4x3 + z4x1)) y6) ∧ (mask_Span_l0 k (z4x0, z4x1, (IntKind.wrap .u64 (BitVec.toNat (BitVec.ofInt (IntKind.bits .u64) z4x2 ||| BitVec.ofInt (IntKind.bits .u64) y6))), (IntKind.wrap .i64 (z4x3 + z4x1))) y5_)) (z4x2 = y5_))
def mask_Span_l0_L (z : mask_Span_l0_Z) (y : mask_Span_l0_Y) : Prop := ∃ k, mask_Span_l0 k z y
noncomputable def q129_0_lp : Lp := .auto none q129_0_body (loopG 0 q129_0_st (fun z y => ∃ k, mask_Span_l0 k z y) q129_0_K)
noncomputable def q129_lp : Nat → FuncId → Nat → Nat → Lp := lpTab [(129, 5, 0, 1, q129_0_lp)]
theorem q129_0_round (n : Nat) (z4x0 : Int) (z4x1 : Int) (z4x2 : Int) (z4x3 : Int) (K : Ret → S → Prop) (next : S → Prop) : acode q129_cx 129 (acall q129_cx okT q129_lp (n + 1)) (okT 129) (q129_lp (n + 1) 129) none q129_0_body (iterK (wkK 0 K) next) (q129_0_st (z4x0, z4x1, z4x2, z4x3) () ()) =
    (rqn 5 (br (decide (z4x3 ≤ (wI (z4x0 - z4x1)))) (rqn 7 (∃ y6 : Int, (mask_one_R (wI (z4x3 + z4x1)) y6) ∧ (rqn 2 (next ⟨[(1, (vi z4x0)), (2, (vi z4x1)), (8, (vu (IntKind.wrap .u64 (BitVec.toNat (BitVec.ofInt (IntKind.bits .u64) z4x2 ||| BitVec.ofInt (IntKind.bits .u64) y6))))), (9, (vi (wI (z4x3 + z4x1)))), (34, (vb (decide (z4x3 ≤ (wI (z4x0 - z4x1))))))], [], []⟩)))) (wkK 0 K (.exit 0) ⟨[(1, (vi z4x0)), (2, (vi z4x1)), (8, (vu z4x2)), (9, (vi z4x3)), (34, (vb (decide (z4x3 ≤ (wI (z4x0 - z4x1))))))], [], []⟩))) := by kernel_rfl
theorem q129_0_step (n k : Nat) (z4x0 : Int) (z4x1 : Int) (z4x2 : Int) (z4x3 : Int) (y5_ : mask_Span_l0_Y) (K : Ret → S → Prop) (h : mask_Span_l0 (k + 1) (z4x0, z4x1, z4x2, z4x3) y5_) (hK : q129_0_Kp K () y5_) (next : S → Prop) (hnext : ∀ z' s', mask_Span_l0 k z' y5_ → q129_0_K K z' () y5_ → (∃ cc', wk 0 s' (q129_0_st z' () cc')) → next s') : acode q129_cx 129 (acall q129_cx okT q129_lp (n + 1)) (okT 129) (q129_lp (n + 1) 129) none q129_0_body (iterK (wkK 0 K) next) (q129_0_st (z4x0, z4x1, z4x2, z4x3) () ()) := by
  refine cast (q129_0_round n z4x0 z4x1 z4x2 z4x3 K next).symm ?_
  simp only [mask_Span_l0] at h
  refine rqn_intro 5 ?_
  refine br_both h (fun hb h => ?_) (fun hb h => ?_)
  ·refine rqn_intro 7 ?_
   refine ex_both h fun y6 h => ?_
   refine rqn_intro 2 ?_
   exact hnext (z4x0, z4x1, (IntKind.wrap .u64 (BitVec.toNat (BitVec.ofInt (IntKind.bits .u64) z4x2 ||| BitVec.ofInt (IntKind.bits .u64) y6))), (wI (z4x3 + z4x1))) _ h hK ⟨(), wk_of (Or.inr ⟨⟨Or.inl rfl, Or.inl rfl, Or.inl rfl, Or.inl rfl, trivial⟩, trivial, rfl, rfl, rfl⟩)⟩
  ·subst h
   refine ⟨_, ?_, hK⟩
   exact wk_of (Or.inr ⟨⟨Or.inl rfl, trivial⟩, trivial, rfl, rfl, rfl⟩)
theorem q129_0_ok (n : Nat) : Owed q129_cx okT 129 q129_lp (n + 1) q129_0_lp := loop_owed (fun z y h => h) fun k zz qq cc yy K h hK next hnext => q129_0_step n k zz.1 zz.2.1 zz.2.2.1 zz.2.2.2 yy K h hK next hnext
theorem q129_lpok : LpOk q129_cx okT q129_lp := LpOk_tab ⟨q129_0_ok, trivial⟩
def mask_Span_R (a0 : Int) (a1 : Int) (a2 : Int) (y : Int × Int) : Prop :=
  (∃ y1 : Bool, (mask_may_R a0 y1) ∧ (br (!y1) ((0, 2) = y) (∃ y2 : Bool, (mask_may_R a1 y2) ∧ (br (!y2) ((0, 2) = y) (br (decide (a0 > a1)) ((0, 2) = y) (br (decide (a2 < 1)) ((0, 2) = y) (∃ y3 : Int, (mask_one_R a0 y3) ∧ (∃ y8 : mask_Span_l0_Y, mask_Span_l0_L (a1, a2, y3, a0) y8 ∧ ((y8, 0) = y)))))))))
theorem q129_tree (a0 : Int) (a1 : Int) (a2 : Int) (y : Int × Int) : acall q129_cx okT q129_lp 60 (.fn 129 [] []) [(V.int .i64 a0), (V.int .i64 a1), (V.int .i64 a2)] [] (leafK (.tup (.cons (.int .u64) (.one (.int .i64)))) y) =
    (rqn 4 (∃ y1 : Bool, (mask_may_R a0 y1) ∧ (rqn 2 (br (!y1) (rqn 7 (req true ((0, 2) = y))) (rqn 2 (∃ y2 : Bool, (mask_may_R a1 y2) ∧ (rqn 3 (br (!y2) (rqn 5 (req true ((0, 2) = y))) (rqn 5 (br (decide (a0 > a1)) (rqn 3 (req true ((0, 2) = y))) (rqn 3 (br (decide (a2 < 1)) (rqn 2 (req true ((0, 2) = y))) (rqn 2 (∃ y3 : Int, (mask_one_R a0 y3) ∧ (rqn 3 (((none : Option Nat) = (none : Option Nat)) ∧ (q129_0_body = q129_0_body) ∧ ∃ z7 : mask_Span_l0_Z, ∃ z7q : q129_0_Q, ∃ y8 : mask_Span_l0_Y, (0 = 0) ∧ (∃ zc : q129_0_C, wk 0 ⟨[(0, (vi a0)), (1, (vi a1)), (2, (vi a2)), (6, (vu 0)), (7, (vi 0)), (26, (vb (decide (a2 < 1)))), (8, (vu y3)), (9, (vi a0))], [], []⟩ (q129_0_st z7 z7q zc)) ∧ (∃ k, mask_Span_l0 k z7 y8) ∧ (rqn 3 (req true ((y8, 0) = y))))))))))))))))))) := by kernel_rfl
theorem q129_run (a0 : Int) (a1 : Int) (a2 : Int) (y : Int × Int) (h : mask_Span_R a0 a1 a2 y) : acall q129_cx okT q129_lp 60 (.fn 129 [] []) [(V.int .i64 a0), (V.int .i64 a1), (V.int .i64 a2)] [] (leafK (.tup (.cons (.int .u64) (.one (.int .i64)))) y) := by
  refine cast (q129_tree a0 a1 a2 y).symm ?_
  unfold mask_Span_R at h
  refine rqn_intro 4 ?_
  refine ex_both h fun y1 h => ?_
  refine rqn_intro 2 ?_
  refine br_both h (fun hb h => ?_) (fun hb h => ?_)
  ·refine rqn_intro 7 ?_
   exact req_intro rfl h
  ·refine rqn_intro 2 ?_
   refine ex_both h fun y2 h => ?_
   refine rqn_intro 3 ?_
   refine br_both h (fun hb h => ?_) (fun hb h => ?_)
   ·refine rqn_intro 5 ?_
    exact req_intro rfl h
   ·refine rqn_intro 5 ?_
    refine br_both h (fun hb h => ?_) (fun hb h => ?_)
    ·refine rqn_intro 3 ?_
     exact req_intro rfl h
    ·refine rqn_intro 3 ?_
     refine br_both h (fun hb h => ?_) (fun hb h => ?_)
     ·refine rqn_intro 2 ?_
      exact req_intro rfl h
     ·refine rqn_intro 2 ?_
      refine ex_both h fun y3 h => ?_
      refine rqn_intro 3 ?_
      obtain ⟨y8, ry8, h⟩ := h
      refine ⟨rfl, rfl, (a1, a2, y3, a0), (), y8, rfl, ⟨(), wk_of (Or.inr ⟨⟨Or.inl rfl, Or.inl rfl, Or.inl rfl, Or.inl rfl, trivial⟩, trivial, rfl, rfl, rfl⟩)⟩, ry8, ?_⟩
      refine rqn_intro 3 ?_
      exact req_intro rfl h
theorem mask_Span_ok : FxOk Tryd.prog gsT 129 (.cons (.int .i64) (.cons (.int .i64) (.one (.int .i64)))) (.tup (.cons (.int .u64) (.one (.int .i64)))) fun x y => mask_Span_R (x.1) (x.2.1) (x.2.2) y := fx_of (c := q129_cx) (ty_ok rfl) (eq_ok rfl) q129_fns follows_ok (ok := okT) (lp := q129_lp) (n := 60) q129_lpok (enters Tryd.func129 (by kernel_rfl) rfl) (fun y => ⟨_, rfl⟩) fun x y h => q129_run _ _ _ y h
noncomputable def q111_cx : Cx := ⟨tyT, [(111, .body Tryd.f111),
  (129, .fx (.cons (.int .i64) (.cons (.int .i64) (.one (.int .i64)))) (.tup (.cons (.int .u64) (.one (.int .i64)))) fun x y => mask_Span_R (x.1) (x.2.1) (x.2.2) y)], gsT, eqT⟩
theorem q111_fns : FnsOk Tryd.prog q111_cx := Fns_assoc ⟨body_ent Tryd.func111 (by kernel_rfl) (by kernel_rfl), mask_Span_ok, trivial⟩
def field_span_R (a0 : Int) (a1 : Int) (a2 : Int) (y : Int × Bool) : Prop :=
  (∃ y1 : Int × Int, (mask_Span_R a0 a1 a2 y1) ∧ (((y1.1), ((y1.2) == 0)) = y))
theorem q111_tree (a0 : Int) (a1 : Int) (a2 : Int) (y : Int × Bool) : acall q111_cx okT lpT 60 (.fn 111 [] []) [(V.agg [(V.int .i64 a0), (V.int .i64 a1)]), (V.int .i64 a2)] [] (leafK (.tup (.cons (.int .u64) (.one .bool))) y) =
    (rqn 8 (∃ y1 : Int × Int, (mask_Span_R a0 a1 a2 y1) ∧ (rqn 10 (req true (((y1.1), ((y1.2) == 0)) = y))))) := by kernel_rfl
theorem q111_run (a0 : Int) (a1 : Int) (a2 : Int) (y : Int × Bool) (h : field_span_R a0 a1 a2 y) : acall q111_cx okT lpT 60 (.fn 111 [] []) [(V.agg [(V.int .i64 a0), (V.int .i64 a1)]), (V.int .i64 a2)] [] (leafK (.tup (.cons (.int .u64) (.one .bool))) y) := by
  refine cast (q111_tree a0 a1 a2 y).symm ?_
  unfold field_span_R at h
  refine rqn_intro 8 ?_
  refine ex_both h fun y1 h => ?_
  refine rqn_intro 10 ?_
  exact req_intro rfl h
theorem field_span_ok : FxOk Tryd.prog gsT 111 (.cons (.agg (.cons (.int .i64) (.one (.int .i64)))) (.one (.int .i64))) (.tup (.cons (.int .u64) (.one .bool))) fun x y => field_span_R (x.1.1) (x.1.2) (x.2) y := fx_of (c := q111_cx) (ty_ok rfl) (eq_ok rfl) q111_fns follows_ok (ok := okT) (lp := lpT) (n := 60) lp_ok (enters Tryd.func111 (by kernel_rfl) rfl) (fun y => ⟨_, rfl⟩) fun x y h => q111_run _ _ _ y h
noncomputable def q83_cx : Cx := ⟨tyT, [(81, .fx (.one (.int .i64)) .bool fun x y => field_there_R x y),
  (83, .body Tryd.f83),
  (111, .fx (.cons (.agg (.cons (.int .i64) (.one (.int .i64)))) (.one (.int .i64))) (.tup (.cons (.int .u64) (.one .bool))) fun x y => field_span_R (x.1.1) (x.1.2) (x.2) y)], gsT, eqT⟩
theorem q83_fns : FnsOk Tryd.prog q83_cx := Fns_assoc ⟨field_there_ok, body_ent Tryd.func83 (by kernel_rfl) (by kernel_rfl), field_span_ok, trivial⟩
def field_Whole_R (a0 : Int) (y : Int) : Prop :=
  (∃ y1 : Bool, (field_there_R a0 y1) ∧ (br (!y1) (0 = y) (req ((decide (0 ≤ a0)) && (decide (a0 < 5))) (req (Nat.ble ((offN 0 a0 2) + 2) (List.length endsL)) (∃ y2 : Int × Bool, (field_span_R (List.getD endsL ((offN 0 a0 2) + 0) 0) (List.getD endsL ((offN 0 a0 2) + 1) 0) 1 y2) ∧ ((y2.1) = y))))))
theorem q83_tree (a0 : Int) (y : Int) : acall q83_cx okT lpT 60 (.fn 83 [] []) [(V.int .i64 a0)] [] (leafK (.int .u64) y) =
    (rqn 3 (∃ y1 : Bool, (field_there_R a0 y1) ∧ (req true (br (!y1) (req true (req true (0 = y))) (req true (req ((decide (0 ≤ a0)) && (decide (a0 < 5))) (req (Nat.ble ((offN 0 a0 2) + 2) (List.length endsL)) (req true (∃ y2 : Int × Bool, (field_span_R (List.getD endsL ((offN 0 a0 2) + 0) 0) (List.getD endsL ((offN 0 a0 2) + 1) 0) 1 y2) ∧ (rqn 7 (req true ((y2.1) = y)))))))))))) := by kernel_rfl
theorem q83_run (a0 : Int) (y : Int) (h : field_Whole_R a0 y) : acall q83_cx okT lpT 60 (.fn 83 [] []) [(V.int .i64 a0)] [] (leafK (.int .u64) y) := by
  refine cast (q83_tree a0 y).symm ?_
  unfold field_Whole_R at h
  refine rqn_intro 3 ?_
  refine ex_both h fun y1 h => ?_
  refine req_intro rfl ?_
  refine br_both h (fun hb h => ?_) (fun hb h => ?_)
  ·refine req_intro rfl ?_
   exact req_intro rfl h
  ·refine req_intro rfl ?_
   obtain ⟨q, h⟩ := req_of h
   refine req_intro (band (band_l q) (band_r q)) ?_
   obtain ⟨q, h⟩ := req_of h
   refine req_intro q ?_
   refine req_intro rfl ?_
   refine ex_both h fun y2 h => ?_
   refine rqn_intro 7 ?_
   exact req_intro rfl h
theorem field_Whole_ok : FxOk Tryd.prog gsT 83 (.one (.int .i64)) (.int .u64) fun x y => field_Whole_R x y := fx_of (c := q83_cx) (ty_ok rfl) (eq_ok rfl) q83_fns follows_ok (ok := okT) (lp := lpT) (n := 60) lp_ok (enters Tryd.func83 (by kernel_rfl) rfl) (fun y => ⟨_, rfl⟩) fun x y h => q83_run _ y h
noncomputable def q50_cx : Cx := ⟨tyT, [(50, .body Tryd.f50),
  (81, .fx (.one (.int .i64)) .bool fun x y => field_there_R x y),
  (82, .fx (.cons (.int .u64) (.one (.int .u64))) (.int .u64) fun x y => mask_Less_R (x.1) (x.2) y),
  (83, .fx (.one (.int .i64)) (.int .u64) fun x y => field_Whole_R x y)], gsT, eqT⟩
theorem q50_fns : FnsOk Tryd.prog q50_cx := Fns_assoc ⟨body_ent Tryd.func50 (by kernel_rfl) (by kernel_rfl), field_there_ok, mask_Less_ok, field_Whole_ok, trivial⟩
def field_Check_R (a0 : Int) (a1 : Int) (y : Int) : Prop :=
  (∃ y1 : Bool, (field_there_R a0 y1) ∧ (br (!y1) (2 = y) (br (a1 == 0) (160 = y) (∃ y2 : Int, (field_Whole_R a0 y2) ∧ (∃ y3 : Int, (mask_Less_R a1 y2 y3) ∧ (br (y3 != 0) (160 = y) (0 = y)))))))
theorem q50_tree (a0 : Int) (a1 : Int) (y : Int) : acall q50_cx okT lpT 60 (.fn 50 [] []) [(V.int .i64 a0), (V.int .u64 a1)] [] (leafK (.int .i64) y) =
    (rqn 3 (∃ y1 : Bool, (field_there_R a0 y1) ∧ (rqn 2 (br (!y1) (req true (req true (2 = y))) (rqn 3 (br (a1 == 0) (rqn 3 (req true (160 = y))) (rqn 3 (∃ y2 : Int, (field_Whole_R a0 y2) ∧ (req true (∃ y3 : Int, (mask_Less_R a1 y2 y3) ∧ (rqn 3 (br (y3 != 0) (req true (req true (160 = y))) (req true (req true (0 = y))))))))))))))) := by kernel_rfl
theorem q50_run (a0 : Int) (a1 : Int) (y : Int) (h : field_Check_R a0 a1 y) : acall q50_cx okT lpT 60 (.fn 50 [] []) [(V.int .i64 a0), (V.int .u64 a1)] [] (leafK (.int .i64) y) := by
  refine cast (q50_tree a0 a1 y).symm ?_
  unfold field_Check_R at h
  refine rqn_intro 3 ?_
  refine ex_both h fun y1 h => ?_
  refine rqn_intro 2 ?_
  refine br_both h (fun hb h => ?_) (fun hb h => ?_)
  ·refine req_intro rfl ?_
   exact req_intro rfl h
  ·refine rqn_intro 3 ?_
   refine br_both h (fun hb h => ?_) (fun hb h => ?_)
   ·refine rqn_intro 3 ?_
    exact req_intro rfl h
   ·refine rqn_intro 3 ?_
    refine ex_both h fun y2 h => ?_
    refine req_intro rfl ?_
    refine ex_both h fun y3 h => ?_
    refine rqn_intro 3 ?_
    refine br_both h (fun hb h => ?_) (fun hb h => ?_)
    ·refine req_intro rfl ?_
     exact req_intro rfl h
    ·refine req_intro rfl ?_
     exact req_intro rfl h
theorem field_Check_ok : FxOk Tryd.prog gsT 50 (.cons (.int .i64) (.one (.int .u64))) (.int .i64) fun x y => field_Check_R (x.1) (x.2) y := fx_of (c := q50_cx) (ty_ok rfl) (eq_ok rfl) q50_fns follows_ok (ok := okT) (lp := lpT) (n := 60) lp_ok (enters Tryd.func50 (by kernel_rfl) rfl) (fun y => ⟨_, rfl⟩) fun x y h => q50_run _ _ y h
noncomputable def q23_cx : Cx := ⟨tyT, [(23, .body Tryd.f23),
  (49, .body Tryd.f49),
  (50, .fx (.cons (.int .i64) (.one (.int .u64))) (.int .i64) fun x y => field_Check_R (x.1) (x.2) y)], gsT, eqT⟩
theorem q23_fns : FnsOk Tryd.prog q23_cx := Fns_assoc ⟨body_ent Tryd.func23 (by kernel_rfl) (by kernel_rfl), body_ent Tryd.func49 (by kernel_rfl) (by kernel_rfl), field_Check_ok, trivial⟩
def cron_Check_R (a0 : Int) (a1 : Int) (a2 : Int) (a3 : Int) (a4 : Int) (y : Int) : Prop :=
  (br ((a0 == 0) && ((a1 == 0) && ((a2 == 0) && ((a3 == 0) && ((a4 == 0) && true))))) (170 = y) (∃ y1 : Int, (field_Check_R 0 a0 y1) ∧ (br (y1 != 0) (170 = y) (∃ y2 : Int, (field_Check_R 1 a1 y2) ∧ (br (y2 != 0) (170 = y) (∃ y3 : Int, (field_Check_R 2 a2 y3) ∧ (br (y3 != 0) (170 = y) (∃ y4 : Int, (field_Check_R 3 a3 y4) ∧ (br (y4 != 0) (170 = y) (∃ y5 : Int, (field_Check_R 4 a4 y5) ∧ (br (y5 != 0) (170 = y) (0 = y))))))))))))
theorem q23_tree (a0 : Int) (a1 : Int) (a2 : Int) (a3 : Int) (a4 : Int) (y : Int) : acall q23_cx okT lpT 60 (.fn 23 [] []) [(V.agg [(V.int .u64 a0), (V.int .u64 a1), (V.int .u64 a2), (V.int .u64 a3), (V.int .u64 a4)])] [] (leafK (.int .i64) y) =
    (rqn 4 (br ((a0 == 0) && ((a1 == 0) && ((a2 == 0) && ((a3 == 0) && ((a4 == 0) && true))))) (req true (req true (170 = y))) (rqn 28 (∃ y1 : Int, (field_Check_R 0 a0 y1) ∧ (req true (br (y1 != 0) (req true (req true (170 = y))) (rqn 12 (∃ y2 : Int, (field_Check_R 1 a1 y2) ∧ (req true (br (y2 != 0) (req true (req true (170 = y))) (rqn 12 (∃ y3 : Int, (field_Check_R 2 a2 y3) ∧ (req true (br (y3 != 0) (req true (req true (170 = y))) (rqn 12 (∃ y4 : Int, (field_Check_R 3 a3 y4) ∧ (req true (br (y4 != 0) (req true (req true (170 = y))) (rqn 12 (∃ y5 : Int, (field_Check_R 4 a4 y5) ∧ (req true (br (y5 != 0) (req true (req true (170 = y))) (rqn 4 (req true (0 = y))))))))))))))))))))))))) := by kernel_rfl
theorem q23_run (a0 : Int) (a1 : Int) (a2 : Int) (a3 : Int) (a4 : Int) (y : Int) (h : cron_Check_R a0 a1 a2 a3 a4 y) : acall q23_cx okT lpT 60 (.fn 23 [] []) [(V.agg [(V.int .u64 a0), (V.int .u64 a1), (V.int .u64 a2), (V.int .u64 a3), (V.int .u64 a4)])] [] (leafK (.int .i64) y) := by
  refine cast (q23_tree a0 a1 a2 a3 a4 y).symm ?_
  unfold cron_Check_R at h
  refine rqn_intro 4 ?_
  refine br_both h (fun hb h => ?_) (fun hb h => ?_)
  ·refine req_intro rfl ?_
   exact req_intro rfl h
  ·refine rqn_intro 28 ?_
   refine ex_both h fun y1 h => ?_
   refine req_intro rfl ?_
   refine br_both h (fun hb h => ?_) (fun hb h => ?_)
   ·refine req_intro rfl ?_
    exact req_intro rfl h
   ·refine rqn_intro 12 ?_
    refine ex_both h fun y2 h => ?_
    refine req_intro rfl ?_
    refine br_both h (fun hb h => ?_) (fun hb h => ?_)
    ·refine req_intro rfl ?_
     exact req_intro rfl h
    ·refine rqn_intro 12 ?_
     refine ex_both h fun y3 h => ?_
     refine req_intro rfl ?_
     refine br_both h (fun hb h => ?_) (fun hb h => ?_)
     ·refine req_intro rfl ?_
      exact req_intro rfl h
     ·refine rqn_intro 12 ?_
      refine ex_both h fun y4 h => ?_
      refine req_intro rfl ?_
      refine br_both h (fun hb h => ?_) (fun hb h => ?_)
      ·refine req_intro rfl ?_
       exact req_intro rfl h
      ·refine rqn_intro 12 ?_
       refine ex_both h fun y5 h => ?_
       refine req_intro rfl ?_
       refine br_both h (fun hb h => ?_) (fun hb h => ?_)
       ·refine req_intro rfl ?_
        exact req_intro rfl h
       ·refine rqn_intro 4 ?_
        exact req_intro rfl h
theorem cron_Check_ok : FxOk Tryd.prog gsT 23 (.one (.agg (.cons (.int .u64) (.cons (.int .u64) (.cons (.int .u64) (.cons (.int .u64) (.one (.int .u64)))))))) (.int .i64) fun x y => cron_Check_R (x.1) (x.2.1) (x.2.2.1) (x.2.2.2.1) (x.2.2.2.2) y := fx_of (c := q23_cx) (ty_ok rfl) (eq_ok rfl) q23_fns follows_ok (ok := okT) (lp := lpT) (n := 60) lp_ok (enters Tryd.func23 (by kernel_rfl) rfl) (fun y => ⟨_, rfl⟩) fun x y h => q23_run _ _ _ _ _ y h
noncomputable def q53_cx : Cx := ⟨tyT, [(53, .body Tryd.f53),
  (87, .fx (.one (.int .i64)) .bool fun x y => mask_may_R x y)], gsT, eqT⟩
theorem q53_fns : FnsOk Tryd.prog q53_cx := Fns_assoc ⟨body_ent Tryd.func53 (by kernel_rfl) (by kernel_rfl), mask_may_ok, trivial⟩
def mask_Has_R (a0 : Int) (a1 : Int) (y : Bool) : Prop :=
  (∃ y1 : Bool, (mask_may_R a1 y1) ∧ (br y1 (req (decide (0 ≤ (IntKind.wrap .u64 a1))) (((IntKind.wrap .u64 (BitVec.toNat (BitVec.ofInt (IntKind.bits .u64) (Int.fdiv a0 (2 ^ (min (Int.toNat (IntKind.wrap .u64 a1)) (IntKind.bits .u64)))) &&& BitVec.ofInt (IntKind.bits .u64) 1))) == 1) = y)) (false = y)))
theorem q53_tree (a0 : Int) (a1 : Int) (y : Bool) : acall q53_cx okT lpT 60 (.fn 53 [] []) [(V.int .u64 a0), (V.int .i64 a1)] [] (leafK .bool y) =
    (rqn 3 (∃ y1 : Bool, (mask_may_R a1 y1) ∧ (req true (br y1 (rqn 3 (req (decide (0 ≤ (IntKind.wrap .u64 a1))) (rqn 4 (req true (((IntKind.wrap .u64 (BitVec.toNat (BitVec.ofInt (IntKind.bits .u64) (Int.fdiv a0 (2 ^ (min (Int.toNat (IntKind.wrap .u64 a1)) (IntKind.bits .u64)))) &&& BitVec.ofInt (IntKind.bits .u64) 1))) == 1) = y))))) (rqn 2 (req true (false = y))))))) := by kernel_rfl
theorem q53_run (a0 : Int) (a1 : Int) (y : Bool) (h : mask_Has_R a0 a1 y) : acall q53_cx okT lpT 60 (.fn 53 [] []) [(V.int .u64 a0), (V.int .i64 a1)] [] (leafK .bool y) := by
  refine cast (q53_tree a0 a1 y).symm ?_
  unfold mask_Has_R at h
  refine rqn_intro 3 ?_
  refine ex_both h fun y1 h => ?_
  refine req_intro rfl ?_
  refine br_both h (fun hb h => ?_) (fun hb h => ?_)
  ·refine rqn_intro 3 ?_
   obtain ⟨q, h⟩ := req_of h
   refine req_intro q ?_
   refine rqn_intro 4 ?_
   exact req_intro rfl h
  ·refine rqn_intro 2 ?_
   exact req_intro rfl h
theorem mask_Has_ok : FxOk Tryd.prog gsT 53 (.cons (.int .u64) (.one (.int .i64))) .bool fun x y => mask_Has_R (x.1) (x.2) y := fx_of (c := q53_cx) (ty_ok rfl) (eq_ok rfl) q53_fns follows_ok (ok := okT) (lp := lpT) (n := 60) lp_ok (enters Tryd.func53 (by kernel_rfl) rfl) (fun y => ⟨_, rfl⟩) fun x y h => q53_run _ _ y h
noncomputable def q113_cx : Cx := ⟨tyT, [(113, .body Tryd.f113)], gsT, eqT⟩
theorem q113_fns : FnsOk Tryd.prog q113_cx := Fns_assoc ⟨body_ent Tryd.func113 (by kernel_rfl) (by kernel_rfl), trivial⟩
def days_months_R (a0 : Int) (y : Int) : Prop :=
  ((IntKind.wrap .i64 (Int.tdiv (IntKind.wrap .i64 ((IntKind.wrap .i64 (153 * a0)) + 2)) 5)) = y)
theorem q113_tree (a0 : Int) (y : Int) : acall q113_cx okT lpT 60 (.fn 113 [] []) [(V.int .i64 a0)] [] (leafK (.int .i64) y) =
    (rqn 6 (req true ((wI (Int.tdiv (wI ((wI (153 * a0)) + 2)) 5)) = y))) := by kernel_rfl
theorem q113_run (a0 : Int) (y : Int) (h : days_months_R a0 y) : acall q113_cx okT lpT 60 (.fn 113 [] []) [(V.int .i64 a0)] [] (leafK (.int .i64) y) := by
  refine cast (q113_tree a0 y).symm ?_
  unfold days_months_R at h
  refine rqn_intro 6 ?_
  exact req_intro rfl h
theorem days_months_ok : FxOk Tryd.prog gsT 113 (.one (.int .i64)) (.int .i64) fun x y => days_months_R x y := fx_of (c := q113_cx) (ty_ok rfl) (eq_ok rfl) q113_fns follows_ok (ok := okT) (lp := lpT) (n := 60) lp_ok (enters Tryd.func113 (by kernel_rfl) rfl) (fun y => ⟨_, rfl⟩) fun x y h => q113_run _ y h
noncomputable def q135_cx : Cx := ⟨tyT, [(135, .body Tryd.f135),
  (139, .body Tryd.f139)], gsT, eqT⟩
theorem q135_fns : FnsOk Tryd.prog q135_cx := Fns_assoc ⟨body_ent Tryd.func135 (by kernel_rfl) (by kernel_rfl), body_ent Tryd.func139 (by kernel_rfl) (by kernel_rfl), trivial⟩
def days_Leap_R (a0 : Int) (y : Bool) : Prop :=
  (br ((Int.tmod a0 4) == 0) (br (!((Int.tmod a0 100) == 0)) (true = y) (((Int.tmod a0 400) == 0) = y)) (false = y))
theorem q135_tree (a0 : Int) (y : Bool) : acall q135_cx okT lpT 60 (.fn 135 [] []) [(V.int .i64 a0)] [] (leafK .bool y) =
    (rqn 11 (br ((Int.tmod a0 4) == 0) (rqn 9 (br (!((Int.tmod a0 100) == 0)) (rqn 3 (req true (true = y))) (rqn 10 (req true (((Int.tmod a0 400) == 0) = y))))) (rqn 2 (req true (false = y))))) := by kernel_rfl
theorem q135_run (a0 : Int) (y : Bool) (h : days_Leap_R a0 y) : acall q135_cx okT lpT 60 (.fn 135 [] []) [(V.int .i64 a0)] [] (leafK .bool y) := by
  refine cast (q135_tree a0 y).symm ?_
  unfold days_Leap_R at h
  refine rqn_intro 11 ?_
  refine br_both h (fun hb h => ?_) (fun hb h => ?_)
  ·refine rqn_intro 9 ?_
   refine br_both h (fun hb h => ?_) (fun hb h => ?_)
   ·refine rqn_intro 3 ?_
    exact req_intro rfl h
   ·refine rqn_intro 10 ?_
    exact req_intro rfl h
  ·refine rqn_intro 2 ?_
   exact req_intro rfl h
theorem days_Leap_ok : FxOk Tryd.prog gsT 135 (.one (.int .i64)) .bool fun x y => days_Leap_R x y := fx_of (c := q135_cx) (ty_ok rfl) (eq_ok rfl) q135_fns follows_ok (ok := okT) (lp := lpT) (n := 60) lp_ok (enters Tryd.func135 (by kernel_rfl) rfl) (fun y => ⟨_, rfl⟩) fun x y h => q135_run _ y h
noncomputable def q130_cx : Cx := ⟨tyT, [(130, .body Tryd.f130),
  (135, .fx (.one (.int .i64)) .bool fun x y => days_Leap_R x y)], gsT, eqT⟩
theorem q130_fns : FnsOk Tryd.prog q130_cx := Fns_assoc ⟨body_ent Tryd.func130 (by kernel_rfl) (by kernel_rfl), days_Leap_ok, trivial⟩
def days_Long_R (a0 : Int) (a1 : Int) (y : Int) : Prop :=
  (br (decide (a1 < 1)) (0 = y) (br (decide (a1 ≥ 13)) (0 = y) (req ((decide (0 ≤ a1)) && (decide (a1 < 13))) (req (Nat.blt (offN 0 a1 1) (List.length longL)) (br (a1 == 2) (∃ y1 : Bool, (days_Leap_R a0 y1) ∧ (br y1 ((IntKind.wrap .i64 ((List.getD longL (offN 0 a1 1) 0) + 1)) = y) ((List.getD longL (offN 0 a1 1) 0) = y))) ((List.getD longL (offN 0 a1 1) 0) = y))))))
theorem q130_tree (a0 : Int) (a1 : Int) (y : Int) : acall q130_cx okT lpT 60 (.fn 130 [] []) [(V.int .i64 a0), (V.int .i64 a1)] [] (leafK (.int .i64) y) =
    (rqn 4 (br (decide (a1 < 1)) (rqn 2 (req true (0 = y))) (rqn 3 (br (decide (a1 ≥ 13)) (req true (req true (0 = y))) (req true (req ((decide (0 ≤ a1)) && (decide (a1 < 13))) (req (Nat.blt (offN 0 a1 1) (List.length longL)) (rqn 4 (br (a1 == 2) (rqn 2 (∃ y1 : Bool, (days_Leap_R a0 y1) ∧ (req true (br y1 (rqn 5 (req true ((wI ((List.getD longL (offN 0 a1 1) 0) + 1)) = y))) (rqn 2 (req true ((List.getD longL (offN 0 a1 1) 0) = y))))))) (rqn 3 (req true ((List.getD longL (offN 0 a1 1) 0) = y)))))))))))) := by kernel_rfl
theorem q130_run (a0 : Int) (a1 : Int) (y : Int) (h : days_Long_R a0 a1 y) : acall q130_cx okT lpT 60 (.fn 130 [] []) [(V.int .i64 a0), (V.int .i64 a1)] [] (leafK (.int .i64) y) := by
  refine cast (q130_tree a0 a1 y).symm ?_
  unfold days_Long_R at h
  refine rqn_intro 4 ?_
  refine br_both h (fun hb h => ?_) (fun hb h => ?_)
  ·refine rqn_intro 2 ?_
   exact req_intro rfl h
  ·refine rqn_intro 3 ?_
   refine br_both h (fun hb h => ?_) (fun hb h => ?_)
   ·refine req_intro rfl ?_
    exact req_intro rfl h
   ·refine req_intro rfl ?_
    obtain ⟨q, h⟩ := req_of h
    refine req_intro (band (band_l q) (band_r q)) ?_
    obtain ⟨q, h⟩ := req_of h
    refine req_intro q ?_
    refine rqn_intro 4 ?_
    refine br_both h (fun hb h => ?_) (fun hb h => ?_)
    ·refine rqn_intro 2 ?_
     refine ex_both h fun y1 h => ?_
     refine req_intro rfl ?_
     refine br_both h (fun hb h => ?_) (fun hb h => ?_)
     ·refine rqn_intro 5 ?_
      exact req_intro rfl h
     ·refine rqn_intro 2 ?_
      exact req_intro rfl h
    ·refine rqn_intro 3 ?_
     exact req_intro rfl h
theorem days_Long_ok : FxOk Tryd.prog gsT 130 (.cons (.int .i64) (.one (.int .i64))) (.int .i64) fun x y => days_Long_R (x.1) (x.2) y := fx_of (c := q130_cx) (ty_ok rfl) (eq_ok rfl) q130_fns follows_ok (ok := okT) (lp := lpT) (n := 60) lp_ok (enters Tryd.func130 (by kernel_rfl) rfl) (fun y => ⟨_, rfl⟩) fun x y h => q130_run _ _ y h
noncomputable def q114_cx : Cx := ⟨tyT, [(114, .body Tryd.f114),
  (130, .fx (.cons (.int .i64) (.one (.int .i64))) (.int .i64) fun x y => days_Long_R (x.1) (x.2) y)], gsT, eqT⟩
theorem q114_fns : FnsOk Tryd.prog q114_cx := Fns_assoc ⟨body_ent Tryd.func114 (by kernel_rfl) (by kernel_rfl), days_Long_ok, trivial⟩
def days_Check_R (a0 : Int) (a1 : Int) (a2 : Int) (y : Int) : Prop :=
  (br (decide (a0 < 1970)) (140 = y) (br (decide (a0 > 9999)) (140 = y) (br (decide (a2 < 1)) (140 = y) (∃ y1 : Int, (days_Long_R a0 a1 y1) ∧ (br (decide (a2 > y1)) (140 = y) (0 = y))))))
theorem q114_tree (a0 : Int) (a1 : Int) (a2 : Int) (y : Int) : acall q114_cx okT lpT 60 (.fn 114 [] []) [(V.agg [(V.int .i64 a0), (V.int .i64 a1), (V.int .i64 a2)])] [] (leafK (.int .i64) y) =
    (rqn 6 (br (decide (a0 < 1970)) (rqn 6 (req true (140 = y))) (rqn 5 (br (decide (a0 > 9999)) (rqn 4 (req true (140 = y))) (rqn 5 (br (decide (a2 < 1)) (rqn 2 (req true (140 = y))) (rqn 7 (∃ y1 : Int, (days_Long_R a0 a1 y1) ∧ (rqn 2 (br (decide (a2 > y1)) (req true (req true (140 = y))) (req true (req true (0 = y))))))))))))) := by kernel_rfl
theorem q114_run (a0 : Int) (a1 : Int) (a2 : Int) (y : Int) (h : days_Check_R a0 a1 a2 y) : acall q114_cx okT lpT 60 (.fn 114 [] []) [(V.agg [(V.int .i64 a0), (V.int .i64 a1), (V.int .i64 a2)])] [] (leafK (.int .i64) y) := by
  refine cast (q114_tree a0 a1 a2 y).symm ?_
  unfold days_Check_R at h
  refine rqn_intro 6 ?_
  refine br_both h (fun hb h => ?_) (fun hb h => ?_)
  ·refine rqn_intro 6 ?_
   exact req_intro rfl h
  ·refine rqn_intro 5 ?_
   refine br_both h (fun hb h => ?_) (fun hb h => ?_)
   ·refine rqn_intro 4 ?_
    exact req_intro rfl h
   ·refine rqn_intro 5 ?_
    refine br_both h (fun hb h => ?_) (fun hb h => ?_)
    ·refine rqn_intro 2 ?_
     exact req_intro rfl h
    ·refine rqn_intro 7 ?_
     refine ex_both h fun y1 h => ?_
     refine rqn_intro 2 ?_
     refine br_both h (fun hb h => ?_) (fun hb h => ?_)
     ·refine req_intro rfl ?_
      exact req_intro rfl h
     ·refine req_intro rfl ?_
      exact req_intro rfl h
theorem days_Check_ok : FxOk Tryd.prog gsT 114 (.one (.agg (.cons (.int .i64) (.cons (.int .i64) (.one (.int .i64)))))) (.int .i64) fun x y => days_Check_R (x.1) (x.2.1) (x.2.2) y := fx_of (c := q114_cx) (ty_ok rfl) (eq_ok rfl) q114_fns follows_ok (ok := okT) (lp := lpT) (n := 60) lp_ok (enters Tryd.func114 (by kernel_rfl) rfl) (fun y => ⟨_, rfl⟩) fun x y h => q114_run _ _ _ y h
noncomputable def q85_cx : Cx := ⟨tyT, [(85, .body Tryd.f85),
  (113, .fx (.one (.int .i64)) (.int .i64) fun x y => days_months_R x y),
  (114, .fx (.one (.agg (.cons (.int .i64) (.cons (.int .i64) (.one (.int .i64)))))) (.int .i64) fun x y => days_Check_R (x.1) (x.2.1) (x.2.2) y)], gsT, eqT⟩
theorem q85_fns : FnsOk Tryd.prog q85_cx := Fns_assoc ⟨body_ent Tryd.func85 (by kernel_rfl) (by kernel_rfl), days_months_ok, days_Check_ok, trivial⟩
def days_Of_R (a0 : Int) (a1 : Int) (a2 : Int) (y : Int × Int) : Prop :=
  (∃ y1 : Int, (days_Check_R a0 a1 a2 y1) ∧ (br (y1 != 0) ((0, y1) = y) (br (decide ((IntKind.wrap .i64 (a1 - 3)) < 0)) (∃ y2 : Int, (days_months_R (IntKind.wrap .i64 ((IntKind.wrap .i64 (a1 - 3)) + 12)) y2) ∧ (((IntKind.wrap .i64 ((IntKind.wrap .i64 ((IntKind.wrap .i64 ((IntKind.wrap .i64 ((IntKind.wrap .i64 ((IntKind.wrap .i64 ((IntKind.wrap .i64 ((IntKind.wrap .i64 ((IntKind.wrap .i64 (a0 - 1)) * 365)) + (IntKind.wrap .i64 (Int.tdiv (IntKind.wrap .i64 (a0 - 1)) 4)))) - (IntKind.wrap .i64 (Int.tdiv (IntKind.wrap .i64 (a0 - 1)) 100)))) + (IntKind.wrap .i64 (Int.tdiv (IntKind.wrap .i64 (a0 - 1)) 400)))) + y2)) + a2)) - 1)) - 719468)), 0) = y)) (∃ y3 : Int, (days_months_R (IntKind.wrap .i64 (a1 - 3)) y3) ∧ (((IntKind.wrap .i64 ((IntKind.wrap .i64 ((IntKind.wrap .i64 ((IntKind.wrap .i64 ((IntKind.wrap .i64 ((IntKind.wrap .i64 ((IntKind.wrap .i64 ((IntKind.wrap .i64 (a0 * 365)) + (IntKind.wrap .i64 (Int.tdiv a0 4)))) - (IntKind.wrap .i64 (Int.tdiv a0 100)))) + (IntKind.wrap .i64 (Int.tdiv a0 400)))) + y3)) + a2)) - 1)) - 719468)), 0) = y)))))
theorem q85_tree (a0 : Int) (a1 : Int) (a2 : Int) (y : Int × Int) : acall q85_cx okT lpT 60 (.fn 85 [] []) [(V.agg [(V.int .i64 a0), (V.int .i64 a1), (V.int .i64 a2)])] [] (leafK (.tup (.cons (.int .i64) (.one (.int .i64)))) y) =
    (rqn 4 (∃ y1 : Int, (days_Check_R a0 a1 a2 y1) ∧ (rqn 3 (br (y1 != 0) (rqn 3 (req true ((0, y1) = y))) (rqn 10 (br (decide ((wI (a1 - 3)) < 0)) (rqn 20 (∃ y2 : Int, (days_months_R (wI ((wI (a1 - 3)) + 12)) y2) ∧ (rqn 8 (req true (((wI ((wI ((wI ((wI ((wI ((wI ((wI ((wI ((wI (a0 - 1)) * 365)) + (wI (Int.tdiv (wI (a0 - 1)) 4)))) - (wI (Int.tdiv (wI (a0 - 1)) 100)))) + (wI (Int.tdiv (wI (a0 - 1)) 400)))) + y2)) + a2)) - 1)) - 719468)), 0) = y))))) (rqn 14 (∃ y3 : Int, (days_months_R (wI (a1 - 3)) y3) ∧ (rqn 8 (req true (((wI ((wI ((wI ((wI ((wI ((wI ((wI ((wI (a0 * 365)) + (wI (Int.tdiv a0 4)))) - (wI (Int.tdiv a0 100)))) + (wI (Int.tdiv a0 400)))) + y3)) + a2)) - 1)) - 719468)), 0) = y))))))))))) := by kernel_rfl
theorem q85_run (a0 : Int) (a1 : Int) (a2 : Int) (y : Int × Int) (h : days_Of_R a0 a1 a2 y) : acall q85_cx okT lpT 60 (.fn 85 [] []) [(V.agg [(V.int .i64 a0), (V.int .i64 a1), (V.int .i64 a2)])] [] (leafK (.tup (.cons (.int .i64) (.one (.int .i64)))) y) := by
  refine cast (q85_tree a0 a1 a2 y).symm ?_
  unfold days_Of_R at h
  refine rqn_intro 4 ?_
  refine ex_both h fun y1 h => ?_
  refine rqn_intro 3 ?_
  refine br_both h (fun hb h => ?_) (fun hb h => ?_)
  ·refine rqn_intro 3 ?_
   exact req_intro rfl h
  ·refine rqn_intro 10 ?_
   refine br_both h (fun hb h => ?_) (fun hb h => ?_)
   ·refine rqn_intro 20 ?_
    refine ex_both h fun y2 h => ?_
    refine rqn_intro 8 ?_
    exact req_intro rfl h
   ·refine rqn_intro 14 ?_
    refine ex_both h fun y3 h => ?_
    refine rqn_intro 8 ?_
    exact req_intro rfl h
theorem days_Of_ok : FxOk Tryd.prog gsT 85 (.one (.agg (.cons (.int .i64) (.cons (.int .i64) (.one (.int .i64)))))) (.tup (.cons (.int .i64) (.one (.int .i64)))) fun x y => days_Of_R (x.1) (x.2.1) (x.2.2) y := fx_of (c := q85_cx) (ty_ok rfl) (eq_ok rfl) q85_fns follows_ok (ok := okT) (lp := lpT) (n := 60) lp_ok (enters Tryd.func85 (by kernel_rfl) rfl) (fun y => ⟨_, rfl⟩) fun x y h => q85_run _ _ _ y h
noncomputable def q112_cx : Cx := ⟨tyT, [(112, .body Tryd.f112)], gsT, eqT⟩
theorem q112_fns : FnsOk Tryd.prog q112_cx := Fns_assoc ⟨body_ent Tryd.func112 (by kernel_rfl) (by kernel_rfl), trivial⟩
def days_day_R (a0 : Int) (y : Bool) : Prop :=
  (br (decide (a0 ≥ 0)) ((decide (a0 ≤ 2932896)) = y) (false = y))
theorem q112_tree (a0 : Int) (y : Bool) : acall q112_cx okT lpT 60 (.fn 112 [] []) [(V.int .i64 a0)] [] (leafK .bool y) =
    (rqn 4 (br (decide (a0 ≥ 0)) (rqn 4 (req true ((decide (a0 ≤ 2932896)) = y))) (rqn 2 (req true (false = y))))) := by kernel_rfl
theorem q112_run (a0 : Int) (y : Bool) (h : days_day_R a0 y) : acall q112_cx okT lpT 60 (.fn 112 [] []) [(V.int .i64 a0)] [] (leafK .bool y) := by
  refine cast (q112_tree a0 y).symm ?_
  unfold days_day_R at h
  refine rqn_intro 4 ?_
  refine br_both h (fun hb h => ?_) (fun hb h => ?_)
  ·refine rqn_intro 4 ?_
   exact req_intro rfl h
  ·refine rqn_intro 2 ?_
   exact req_intro rfl h
theorem days_day_ok : FxOk Tryd.prog gsT 112 (.one (.int .i64)) .bool fun x y => days_day_R x y := fx_of (c := q112_cx) (ty_ok rfl) (eq_ok rfl) q112_fns follows_ok (ok := okT) (lp := lpT) (n := 60) lp_ok (enters Tryd.func112 (by kernel_rfl) rfl) (fun y => ⟨_, rfl⟩) fun x y h => q112_run _ y h
noncomputable def q86_cx : Cx := ⟨tyT, [(86, .body Tryd.f86),
  (112, .fx (.one (.int .i64)) .bool fun x y => days_day_R x y)], gsT, eqT⟩
theorem q86_fns : FnsOk Tryd.prog q86_cx := Fns_assoc ⟨body_ent Tryd.func86 (by kernel_rfl) (by kernel_rfl), days_day_ok, trivial⟩
def days_Weekday_R (a0 : Int) (y : Int × Int) : Prop :=
  (∃ y1 : Bool, (days_day_R a0 y1) ∧ (br (!y1) ((0, 2) = y) (((Int.tmod (IntKind.wrap .i64 (a0 + 4)) 7), 0) = y)))
theorem q86_tree (a0 : Int) (y : Int × Int) : acall q86_cx okT lpT 60 (.fn 86 [] []) [(V.int .i64 a0)] [] (leafK (.tup (.cons (.int .i64) (.one (.int .i64)))) y) =
    (rqn 4 (∃ y1 : Bool, (days_day_R a0 y1) ∧ (req true (br (!y1) (rqn 2 (req true ((0, 2) = y))) (rqn 5 (req true (((Int.tmod (wI (a0 + 4)) 7), 0) = y))))))) := by kernel_rfl
theorem q86_run (a0 : Int) (y : Int × Int) (h : days_Weekday_R a0 y) : acall q86_cx okT lpT 60 (.fn 86 [] []) [(V.int .i64 a0)] [] (leafK (.tup (.cons (.int .i64) (.one (.int .i64)))) y) := by
  refine cast (q86_tree a0 y).symm ?_
  unfold days_Weekday_R at h
  refine rqn_intro 4 ?_
  refine ex_both h fun y1 h => ?_
  refine req_intro rfl ?_
  refine br_both h (fun hb h => ?_) (fun hb h => ?_)
  ·refine rqn_intro 2 ?_
   exact req_intro rfl h
  ·refine rqn_intro 5 ?_
   exact req_intro rfl h
theorem days_Weekday_ok : FxOk Tryd.prog gsT 86 (.one (.int .i64)) (.tup (.cons (.int .i64) (.one (.int .i64)))) fun x y => days_Weekday_R x y := fx_of (c := q86_cx) (ty_ok rfl) (eq_ok rfl) q86_fns follows_ok (ok := okT) (lp := lpT) (n := 60) lp_ok (enters Tryd.func86 (by kernel_rfl) rfl) (fun y => ⟨_, rfl⟩) fun x y h => q86_run _ y h
noncomputable def q52_cx : Cx := ⟨tyT, [(23, .fx (.one (.agg (.cons (.int .u64) (.cons (.int .u64) (.cons (.int .u64) (.cons (.int .u64) (.one (.int .u64)))))))) (.int .i64) fun x y => cron_Check_R (x.1) (x.2.1) (x.2.2.1) (x.2.2.2.1) (x.2.2.2.2) y),
  (52, .body Tryd.f52),
  (53, .fx (.cons (.int .u64) (.one (.int .i64))) .bool fun x y => mask_Has_R (x.1) (x.2) y),
  (83, .fx (.one (.int .i64)) (.int .u64) fun x y => field_Whole_R x y),
  (85, .fx (.one (.agg (.cons (.int .i64) (.cons (.int .i64) (.one (.int .i64)))))) (.tup (.cons (.int .i64) (.one (.int .i64)))) fun x y => days_Of_R (x.1) (x.2.1) (x.2.2) y),
  (86, .fx (.one (.int .i64)) (.tup (.cons (.int .i64) (.one (.int .i64)))) fun x y => days_Weekday_R x y)], gsT, eqT⟩
theorem q52_fns : FnsOk Tryd.prog q52_cx := Fns_assoc ⟨cron_Check_ok, body_ent Tryd.func52 (by kernel_rfl) (by kernel_rfl), mask_Has_ok, field_Whole_ok, days_Of_ok, days_Weekday_ok, trivial⟩
def cron_Day_R (a0 : Int) (a1 : Int) (a2 : Int) (a3 : Int) (a4 : Int) (a5 : Int) (a6 : Int) (a7 : Int) (y : Bool) : Prop :=
  (∃ y1 : Int × Int, (days_Of_R a5 a6 a7 y1) ∧ (∃ y2 : Int × Int, (days_Weekday_R (y1.1) y2) ∧ (∃ y3 : Int, (cron_Check_R a0 a1 a2 a3 a4 y3) ∧ (br (y3 != 0) (false = y) (br ((y1.2) != 0) (false = y) (br ((y2.2) != 0) (false = y) (∃ y4 : Bool, (mask_Has_R a3 a6 y4) ∧ (br (!y4) (false = y) (∃ y5 : Bool, (mask_Has_R a2 a7 y5) ∧ (∃ y6 : Bool, (mask_Has_R a4 (y2.1) y6) ∧ (∃ y7 : Int, (field_Whole_R 2 y7) ∧ (br (a2 == y7) (br y5 (y6 = y) (false = y)) (∃ y8 : Int, (field_Whole_R 4 y8) ∧ (br (a4 == y8) (br y5 (y6 = y) (false = y)) (br y5 (true = y) (y6 = y))))))))))))))))
theorem q52_tree (a0 : Int) (a1 : Int) (a2 : Int) (a3 : Int) (a4 : Int) (a5 : Int) (a6 : Int) (a7 : Int) (y : Bool) : acall q52_cx okT lpT 60 (.fn 52 [] []) [(V.agg [(V.int .u64 a0), (V.int .u64 a1), (V.int .u64 a2), (V.int .u64 a3), (V.int .u64 a4)]), (V.agg [(V.int .i64 a5), (V.int .i64 a6), (V.int .i64 a7)])] [] (leafK .bool y) =
    (rqn 3 (∃ y1 : Int × Int, (days_Of_R a5 a6 a7 y1) ∧ (rqn 7 (∃ y2 : Int × Int, (days_Weekday_R (y1.1) y2) ∧ (rqn 7 (∃ y3 : Int, (cron_Check_R a0 a1 a2 a3 a4 y3) ∧ (rqn 2 (br (y3 != 0) (rqn 6 (req true (false = y))) (rqn 4 (br ((y1.2) != 0) (rqn 4 (req true (false = y))) (rqn 4 (br ((y2.2) != 0) (rqn 2 (req true (false = y))) (rqn 5 (∃ y4 : Bool, (mask_Has_R a3 a6 y4) ∧ (rqn 2 (br (!y4) (req true (req true (false = y))) (rqn 6 (∃ y5 : Bool, (mask_Has_R a2 a7 y5) ∧ (rqn 4 (∃ y6 : Bool, (mask_Has_R a4 (y2.1) y6) ∧ (rqn 6 (∃ y7 : Int, (field_Whole_R 2 y7) ∧ (rqn 2 (br (a2 == y7) (rqn 3 (br y5 (rqn 3 (req true (y6 = y))) (rqn 2 (req true (false = y))))) (rqn 3 (∃ y8 : Int, (field_Whole_R 4 y8) ∧ (rqn 2 (br (a4 == y8) (rqn 2 (br y5 (rqn 3 (req true (y6 = y))) (rqn 2 (req true (false = y))))) (rqn 2 (br y5 (rqn 2 (req true (true = y))) (rqn 3 (req true (y6 = y))))))))))))))))))))))))))))))))) := by kernel_rfl
theorem q52_run (a0 : Int) (a1 : Int) (a2 : Int) (a3 : Int) (a4 : Int) (a5 : Int) (a6 : Int) (a7 : Int) (y : Bool) (h : cron_Day_R a0 a1 a2 a3 a4 a5 a6 a7 y) : acall q52_cx okT lpT 60 (.fn 52 [] []) [(V.agg [(V.int .u64 a0), (V.int .u64 a1), (V.int .u64 a2), (V.int .u64 a3), (V.int .u64 a4)]), (V.agg [(V.int .i64 a5), (V.int .i64 a6), (V.int .i64 a7)])] [] (leafK .bool y) := by
  refine cast (q52_tree a0 a1 a2 a3 a4 a5 a6 a7 y).symm ?_
  unfold cron_Day_R at h
  refine rqn_intro 3 ?_
  refine ex_both h fun y1 h => ?_
  refine rqn_intro 7 ?_
  refine ex_both h fun y2 h => ?_
  refine rqn_intro 7 ?_
  refine ex_both h fun y3 h => ?_
  refine rqn_intro 2 ?_
  refine br_both h (fun hb h => ?_) (fun hb h => ?_)
  ·refine rqn_intro 6 ?_
   exact req_intro rfl h
  ·refine rqn_intro 4 ?_
   refine br_both h (fun hb h => ?_) (fun hb h => ?_)
   ·refine rqn_intro 4 ?_
    exact req_intro rfl h
   ·refine rqn_intro 4 ?_
    refine br_both h (fun hb h => ?_) (fun hb h => ?_)
    ·refine rqn_intro 2 ?_
     exact req_intro rfl h
    ·refine rqn_intro 5 ?_
     refine ex_both h fun y4 h => ?_
     refine rqn_intro 2 ?_
     refine br_both h (fun hb h => ?_) (fun hb h => ?_)
     ·refine req_intro rfl ?_
      exact req_intro rfl h
     ·refine rqn_intro 6 ?_
      refine ex_both h fun y5 h => ?_
      refine rqn_intro 4 ?_
      refine ex_both h fun y6 h => ?_
      refine rqn_intro 6 ?_
      refine ex_both h fun y7 h => ?_
      refine rqn_intro 2 ?_
      refine br_both h (fun hb h => ?_) (fun hb h => ?_)
      ·refine rqn_intro 3 ?_
       refine br_both h (fun hb h => ?_) (fun hb h => ?_)
       ·refine rqn_intro 3 ?_
        exact req_intro rfl h
       ·refine rqn_intro 2 ?_
        exact req_intro rfl h
      ·refine rqn_intro 3 ?_
       refine ex_both h fun y8 h => ?_
       refine rqn_intro 2 ?_
       refine br_both h (fun hb h => ?_) (fun hb h => ?_)
       ·refine rqn_intro 2 ?_
        refine br_both h (fun hb h => ?_) (fun hb h => ?_)
        ·refine rqn_intro 3 ?_
         exact req_intro rfl h
        ·refine rqn_intro 2 ?_
         exact req_intro rfl h
       ·refine rqn_intro 2 ?_
        refine br_both h (fun hb h => ?_) (fun hb h => ?_)
        ·refine rqn_intro 2 ?_
         exact req_intro rfl h
        ·refine rqn_intro 3 ?_
         exact req_intro rfl h
theorem cron_Day_ok : FxOk Tryd.prog gsT 52 (.cons (.agg (.cons (.int .u64) (.cons (.int .u64) (.cons (.int .u64) (.cons (.int .u64) (.one (.int .u64))))))) (.one (.agg (.cons (.int .i64) (.cons (.int .i64) (.one (.int .i64))))))) .bool fun x y => cron_Day_R (x.1.1) (x.1.2.1) (x.1.2.2.1) (x.1.2.2.2.1) (x.1.2.2.2.2) (x.2.1) (x.2.2.1) (x.2.2.2) y := fx_of (c := q52_cx) (ty_ok rfl) (eq_ok rfl) q52_fns follows_ok (ok := okT) (lp := lpT) (n := 60) lp_ok (enters Tryd.func52 (by kernel_rfl) rfl) (fun y => ⟨_, rfl⟩) fun x y h => q52_run _ _ _ _ _ _ _ _ y h
noncomputable def q84_cx : Cx := ⟨tyT, [(84, .body Tryd.f84),
  (112, .fx (.one (.int .i64)) .bool fun x y => days_day_R x y),
  (113, .fx (.one (.int .i64)) (.int .i64) fun x y => days_months_R x y)], gsT, eqT⟩
theorem q84_fns : FnsOk Tryd.prog q84_cx := Fns_assoc ⟨body_ent Tryd.func84 (by kernel_rfl) (by kernel_rfl), days_day_ok, days_months_ok, trivial⟩
noncomputable def q84_0_body : Code := subC [1, 0, 1, 1, 1, 0, 1, 0, 0] (bodyOf Tryd.f84)
abbrev days_At_l0_Z : Type := Int × Int × Int
abbrev days_At_l0_Y : Type := Int × Int
abbrev q84_0_C : Type := Unit
abbrev q84_0_Q : Type := Unit
noncomputable def q84_0_st (z2 : days_At_l0_Z) (z2q : q84_0_Q) (z2c : q84_0_C) : S := ⟨[(0, (vi (z2.1))), (2, (V.ptr 0 0)), (4, (vi (z2.2.1))), (20, (V.agg [(vi 146097), (vi 400), (vi 100), (vi 36524), (vi 100), (vi 3), (vi 1461), (vi 4), (vi 24), (vi 365), (vi 1), (vi 3)])), (21, (vi (z2.2.2)))], [(Blk.cells [(vi 0), (vi 0), (vi 0)])], []⟩
def q84_0_Kp (K : Ret → S → Prop) (z2q : q84_0_Q) (y3 : days_At_l0_Y) : Prop := K (.exit 0) ⟨[(0, (vi (y3.1))), (2, (V.ptr 0 0)), (4, (vi (y3.2)))], [(Blk.cells [(vi 0), (vi 0), (vi 0)])], []⟩
def q84_0_K (K : Ret → S → Prop) (z2 : days_At_l0_Z) (z2q : q84_0_Q) (y3 : days_At_l0_Y) : Prop := q84_0_Kp K z2q y3
def days_At_l0 : Nat → days_At_l0_Z → days_At_l0_Y → Prop
  | 0, _, _ => False
  | k + 1, (z2x0, z2x1, z2x2), y3_ => (br (decide (z2x2 < 4)) (req (((decide (0 ≤ z2x2)) && (decide (z2x2 < 4))) && (Nat.ble (((Int.toNat z2x2) * 3) + 3) 12)) (req (!((List.getD ([146097, 400, 100, 36524, 100, 3, 1461, 4, 24, 365, 1, 3] : List Int) (((Int.toNat z2x2) * 3) + 0) 0) == 0)) (days_At_l0 k ((IntKind.wrap .i64 (z2x0 - (IntKind.wrap .i64 ((if (List.getD ([146097, 400, 100, 36524, 100, 3, 1461, 4, 24, 365, 1, 3] : List Int) (((Int.toNat z2x2) * 3) + 2) 0) < (IntKind.wrap .i64 (Int.tdiv z2x0 (List.getD ([146097, 400, 100, 36524, 100, 3, 1461, 4, 24, 365, 1, 3] : List Int) (((Int.toNat z2x2) * 3) + 0) 0))) then (List.getD ([146097, 400, 100, 36524, 100, 3, 1461, 4, 24, 365, 1, 3] : List Int) (((Int.toNat z2x2) * 3) + 2) 0) else (IntKind.wrap .i64 (Int.tdiv z2x0 (List.getD ([146097, 400, 100, 36524, 100, 3, 1461, 4, 24, 365, 1, 3] : List Int) (((Int.toNat z2x2) * 3) + 0) 0)))) * (List.getD ([146097, 400, 100, 36524, 100, 3, 1461, 4, 24, 365, 1, 3] : List Int) (((Int.toNat z2x2) * 3) + 0) 0))))), (IntKind.wrap .i64 (z2x1 + (IntKind.wrap .i64 ((if (List.getD ([146097, 400, 100, 36524, 100, 3, 1461, 4, 24, 365, 1, 3] : List Int) (((Int.toNat z2x2) * 3) + 2) 0) < (IntKind.wrap .i64 (Int.tdiv z2x0 (List.getD ([146097, 400, 100, 36524, 100, 3, 1461, 4, 24, 365, 1, 3] : List Int) (((Int.toNat z2x2) * 3) + 0) 0))) then (List.getD ([146097, 400, 100, 36524, 100, 3, 1461, 4, 24, 365, 1, 3] : List Int) (((Int.toNat z2x2) * 3) + 2) 0) else (IntKind.wrap .i64 (Int.tdiv z2x0 (List.getD ([146097, 400, 100, 36524, 100, 3, 1461, 4, 24, 365, 1, 3] : List Int) (((Int.toNat z2x2) * 3) + 0) 0)))) * (List.getD ([146097, 400, 100, 36524, 100, 3, 1461, 4, 24, 365, 1, 3] : List Int) (((Int.toNat z2x2) * 3) + 1) 0))))), (IntKind.wrap .i64 (z2x2 + 1))) y3_))) ((z2x0, z2x1) = y3_))
def days_At_l0_L (z : days_At_l0_Z) (y : days_At_l0_Y) : Prop := ∃ k, days_At_l0 k z y
noncomputable def q84_0_lp : Lp := .auto none q84_0_body (loopG 1 q84_0_st (fun z y => ∃ k, days_At_l0 k z y) q84_0_K)
noncomputable def q84_1_body : Code := subC [1, 0, 1, 1, 1, 1, 1, 1, 0, 0, 0] (bodyOf Tryd.f84)
abbrev days_At_l1_Z : Type := Int × Int × Int
abbrev days_At_l1_Y : Type := Int
abbrev q84_1_C : Type := Unit
abbrev q84_1_Q : Type := Unit
noncomputable def q84_1_st (z6 : days_At_l1_Z) (z6q : q84_1_Q) (z6c : q84_1_C) : S := ⟨[(0, (vi (z6.1))), (2, (V.ptr 0 0)), (4, (vi (z6.2.1))), (8, (vi (z6.2.2)))], [(Blk.cells [(vi 0), (vi 0), (vi 0)])], []⟩
def q84_1_Kp (K : Ret → S → Prop) (z6x0 : Int) (z6x1 : Int) (z6q : q84_1_Q) (y7 : days_At_l1_Y) : Prop := K (.exit 2) ⟨[(0, (vi z6x0)), (2, (V.ptr 0 0)), (4, (vi z6x1)), (8, (vi y7))], [(Blk.cells [(vi 0), (vi 0), (vi 0)])], []⟩
def q84_1_K (K : Ret → S → Prop) (z6 : days_At_l1_Z) (z6q : q84_1_Q) (y7 : days_At_l1_Y) : Prop := q84_1_Kp K (z6.1) (z6.2.1) z6q y7
def days_At_l1 : Nat → days_At_l1_Z → days_At_l1_Y → Prop
  | 0, _, _ => False
  | k + 1, (z6x0, z6x1, z6x2), y7_ => (∃ y8 : Int, (days_months_R (IntKind.wrap .i64 (z6x2 + 1)) y8) ∧ (br (decide (y8 > z6x0)) (z6x2 = y7_) (days_At_l1 k (z6x0, z6x1, (IntKind.wrap .i64 (z6x2 + 1))) y7_)))
def days_At_l1_L (z : days_At_l1_Z) (y : days_At_l1_Y) : Prop := ∃ k, days_At_l1 k z y
noncomputable def q84_1_lp : Lp := .auto none q84_1_body (loopG 1 q84_1_st (fun z y => ∃ k, days_At_l1 k z y) q84_1_K)
noncomputable def q84_lp : Nat → FuncId → Nat → Nat → Lp := lpTab [(84, 6, 1, 0, q84_0_lp), (84, 12, 1, 1, q84_1_lp)]
theorem q84_0_round (n : Nat) (z2x0 : Int) (z2x1 : Int) (z2x2 : Int) (K : Ret → S → Prop) (next : S → Prop) : acode q84_cx 84 (acall q84_cx okT q84_lp (n + 0)) (okT 84) (q84_lp (n + 0) 84) none q84_0_body (iterK (wkK 1 K) next) (q84_0_st (z2x0, z2x1, z2x2) () ()) =
    (req true (br (decide (z2x2 < 4)) (req (((decide (0 ≤ z2x2)) && (decide (z2x2 < 4))) && (Nat.ble (((Int.toNat z2x2) * 3) + 3) 12)) (rqn 4 (req (!((List.getD ([146097, 400, 100, 36524, 100, 3, 1461, 4, 24, 365, 1, 3] : List Int) (((Int.toNat z2x2) * 3) + 0) 0) == 0)) (rqn 21 (next ⟨[(0, (vi (wI (z2x0 - (wI ((if (List.getD ([146097, 400, 100, 36524, 100, 3, 1461, 4, 24, 365, 1, 3] : List Int) (((Int.toNat z2x2) * 3) + 2) 0) < (wI (Int.tdiv z2x0 (List.getD ([146097, 400, 100, 36524, 100, 3, 1461, 4, 24, 365, 1, 3] : List Int) (((Int.toNat z2x2) * 3) + 0) 0))) then (List.getD ([146097, 400, 100, 36524, 100, 3, 1461, 4, 24, 365, 1, 3] : List Int) (((Int.toNat z2x2) * 3) + 2) 0) else (wI (Int.tdiv z2x0 (List.getD ([146097, 400, 100, 36524, 100, 3, 1461, 4, 24, 365, 1, 3] : List Int) (((Int.toNat z2x2) * 3) + 0) 0)))) * (List.getD ([146097, 400, 100, 36524, 100, 3, 1461, 4, 24, 365, 1, 3] : List Int) (((Int.toNat z2x2) * 3) + 0) 0))))))), (2, (V.ptr 0 0)), (4, (vi (wI (z2x1 + (wI ((if (List.getD ([146097, 400, 100, 36524, 100, 3, 1461, 4, 24, 365, 1, 3] : List Int) (((Int.toNat z2x2) * 3) + 2) 0) < (wI (Int.tdiv z2x0 (List.getD ([146097, 400, 100, 36524, 100, 3, 1461, 4, 24, 365, 1, 3] : List Int) (((Int.toNat z2x2) * 3) + 0) 0))) then (List.getD ([146097, 400, 100, 36524, 100, 3, 1461, 4, 24, 365, 1, 3] : List Int) (((Int.toNat z2x2) * 3) + 2) 0) else (wI (Int.tdiv z2x0 (List.getD ([146097, 400, 100, 36524, 100, 3, 1461, 4, 24, 365, 1, 3] : List Int) (((Int.toNat z2x2) * 3) + 0) 0)))) * (List.getD ([146097, 400, 100, 36524, 100, 3, 1461, 4, 24, 365, 1, 3] : List Int) (((Int.toNat z2x2) * 3) + 1) 0))))))), (20, (V.agg [(vi 146097), (vi 400), (vi 100), (vi 36524), (vi 100), (vi 3), (vi 1461), (vi 4), (vi 24), (vi 365), (vi 1), (vi 3)])), (21, (vi (wI (z2x2 + 1)))), (22, (vb (decide (z2x2 < 4)))), (6, (V.ptr 1 0)), (7, (vi (if (List.getD ([146097, 400, 100, 36524, 100, 3, 1461, 4, 24, 365, 1, 3] : List Int) (((Int.toNat z2x2) * 3) + 2) 0) < (wI (Int.tdiv z2x0 (List.getD ([146097, 400, 100, 36524, 100, 3, 1461, 4, 24, 365, 1, 3] : List Int) (((Int.toNat z2x2) * 3) + 0) 0))) then (List.getD ([146097, 400, 100, 36524, 100, 3, 1461, 4, 24, 365, 1, 3] : List Int) (((Int.toNat z2x2) * 3) + 2) 0) else (wI (Int.tdiv z2x0 (List.getD ([146097, 400, 100, 36524, 100, 3, 1461, 4, 24, 365, 1, 3] : List Int) (((Int.toNat z2x2) * 3) + 0) 0))))))], [(Blk.cells [(vi 0), (vi 0), (vi 0)]), (Blk.cells [(vi (List.getD ([146097, 400, 100, 36524, 100, 3, 1461, 4, 24, 365, 1, 3] : List Int) (((Int.toNat z2x2) * 3) + 0) 0)), (vi (List.getD ([146097, 400, 100, 36524, 100, 3, 1461, 4, 24, 365, 1, 3] : List Int) (((Int.toNat z2x2) * 3) + 1) 0)), (vi (List.getD ([146097, 400, 100, 36524, 100, 3, 1461, 4, 24, 365, 1, 3] : List Int) (((Int.toNat z2x2) * 3) + 2) 0))])], []⟩))))) (wkK 1 K (.exit 0) ⟨[(0, (vi z2x0)), (2, (V.ptr 0 0)), (4, (vi z2x1)), (20, (V.agg [(vi 146097), (vi 400), (vi 100), (vi 36524), (vi 100), (vi 3), (vi 1461), (vi 4), (vi 24), (vi 365), (vi 1), (vi 3)])), (21, (vi z2x2)), (22, (vb (decide (z2x2 < 4))))], [(Blk.cells [(vi 0), (vi 0), (vi 0)])], []⟩))) := by kernel_rfl
theorem q84_0_step (n k : Nat) (z2x0 : Int) (z2x1 : Int) (z2x2 : Int) (y3_ : days_At_l0_Y) (K : Ret → S → Prop) (h : days_At_l0 (k + 1) (z2x0, z2x1, z2x2) y3_) (hK : q84_0_Kp K () y3_) (next : S → Prop) (hnext : ∀ z' s', days_At_l0 k z' y3_ → q84_0_K K z' () y3_ → (∃ cc', wk 1 s' (q84_0_st z' () cc')) → next s') : acode q84_cx 84 (acall q84_cx okT q84_lp (n + 0)) (okT 84) (q84_lp (n + 0) 84) none q84_0_body (iterK (wkK 1 K) next) (q84_0_st (z2x0, z2x1, z2x2) () ()) := by
  refine cast (q84_0_round n z2x0 z2x1 z2x2 K next).symm ?_
  simp only [days_At_l0] at h
  refine req_intro rfl ?_
  refine br_both h (fun hb h => ?_) (fun hb h => ?_)
  ·obtain ⟨q, h⟩ := req_of h
   refine req_intro (band (band (band_l (band_l q)) (band_r (band_l q))) (band_r q)) ?_
   refine rqn_intro 4 ?_
   obtain ⟨q, h⟩ := req_of h
   refine req_intro q ?_
   refine rqn_intro 21 ?_
   exact hnext ((wI (z2x0 - (wI ((if (List.getD ([146097, 400, 100, 36524, 100, 3, 1461, 4, 24, 365, 1, 3] : List Int) (((Int.toNat z2x2) * 3) + 2) 0) < (wI (Int.tdiv z2x0 (List.getD ([146097, 400, 100, 36524, 100, 3, 1461, 4, 24, 365, 1, 3] : List Int) (((Int.toNat z2x2) * 3) + 0) 0))) then (List.getD ([146097, 400, 100, 36524, 100, 3, 1461, 4, 24, 365, 1, 3] : List Int) (((Int.toNat z2x2) * 3) + 2) 0) else (wI (Int.tdiv z2x0 (List.getD ([146097, 400, 100, 36524, 100, 3, 1461, 4, 24, 365, 1, 3] : List Int) (((Int.toNat z2x2) * 3) + 0) 0)))) * (List.getD ([146097, 400, 100, 36524, 100, 3, 1461, 4, 24, 365, 1, 3] : List Int) (((Int.toNat z2x2) * 3) + 0) 0))))), (wI (z2x1 + (wI ((if (List.getD ([146097, 400, 100, 36524, 100, 3, 1461, 4, 24, 365, 1, 3] : List Int) (((Int.toNat z2x2) * 3) + 2) 0) < (wI (Int.tdiv z2x0 (List.getD ([146097, 400, 100, 36524, 100, 3, 1461, 4, 24, 365, 1, 3] : List Int) (((Int.toNat z2x2) * 3) + 0) 0))) then (List.getD ([146097, 400, 100, 36524, 100, 3, 1461, 4, 24, 365, 1, 3] : List Int) (((Int.toNat z2x2) * 3) + 2) 0) else (wI (Int.tdiv z2x0 (List.getD ([146097, 400, 100, 36524, 100, 3, 1461, 4, 24, 365, 1, 3] : List Int) (((Int.toNat z2x2) * 3) + 0) 0)))) * (List.getD ([146097, 400, 100, 36524, 100, 3, 1461, 4, 24, 365, 1, 3] : List Int) (((Int.toNat z2x2) * 3) + 1) 0))))), (wI (z2x2 + 1))) _ h hK ⟨(), wk_of (Or.inr ⟨⟨Or.inl rfl, Or.inl rfl, Or.inl rfl, Or.inl rfl, Or.inl rfl, trivial⟩, ⟨Or.inl rfl, trivial⟩, rfl, rfl, rfl⟩)⟩
  ·subst h
   refine ⟨_, ?_, hK⟩
   exact wk_of (Or.inr ⟨⟨Or.inl rfl, Or.inl rfl, Or.inl rfl, trivial⟩, ⟨Or.inl rfl, trivial⟩, rfl, rfl, rfl⟩)
theorem q84_0_ok (n : Nat) : Owed q84_cx okT 84 q84_lp (n + 0) q84_0_lp := loop_owed (fun z y h => h) fun k zz qq cc yy K h hK next hnext => q84_0_step n k zz.1 zz.2.1 zz.2.2 yy K h hK next hnext
theorem q84_1_round (n : Nat) (z6x0 : Int) (z6x1 : Int) (z6x2 : Int) (K : Ret → S → Prop) (next : S → Prop) : acode q84_cx 84 (acall q84_cx okT q84_lp (n + 1)) (okT 84) (q84_lp (n + 1) 84) none q84_1_body (iterK (wkK 1 K) next) (q84_1_st (z6x0, z6x1, z6x2) () ()) =
    (rqn 3 (∃ y8 : Int, (days_months_R (wI (z6x2 + 1)) y8) ∧ (rqn 2 (br (decide (y8 > z6x0)) (wkK 1 K (.exit 2) ⟨[(0, (vi z6x0)), (2, (V.ptr 0 0)), (4, (vi z6x1)), (8, (vi z6x2)), (48, (vb (decide (y8 > z6x0))))], [(Blk.cells [(vi 0), (vi 0), (vi 0)])], []⟩) (rqn 3 (next ⟨[(0, (vi z6x0)), (2, (V.ptr 0 0)), (4, (vi z6x1)), (8, (vi (wI (z6x2 + 1)))), (48, (vb (decide (y8 > z6x0))))], [(Blk.cells [(vi 0), (vi 0), (vi 0)])], []⟩)))))) := by kernel_rfl
theorem q84_1_step (n k : Nat) (z6x0 : Int) (z6x1 : Int) (z6x2 : Int) (y7_ : days_At_l1_Y) (K : Ret → S → Prop) (h : days_At_l1 (k + 1) (z6x0, z6x1, z6x2) y7_) (hK : q84_1_Kp K z6x0 z6x1 () y7_) (next : S → Prop) (hnext : ∀ z' s', days_At_l1 k z' y7_ → q84_1_K K z' () y7_ → (∃ cc', wk 1 s' (q84_1_st z' () cc')) → next s') : acode q84_cx 84 (acall q84_cx okT q84_lp (n + 1)) (okT 84) (q84_lp (n + 1) 84) none q84_1_body (iterK (wkK 1 K) next) (q84_1_st (z6x0, z6x1, z6x2) () ()) := by
  refine cast (q84_1_round n z6x0 z6x1 z6x2 K next).symm ?_
  simp only [days_At_l1] at h
  refine rqn_intro 3 ?_
  refine ex_both h fun y8 h => ?_
  refine rqn_intro 2 ?_
  refine br_both h (fun hb h => ?_) (fun hb h => ?_)
  ·subst h
   refine ⟨_, ?_, hK⟩
   exact wk_of (Or.inr ⟨⟨Or.inl rfl, Or.inl rfl, Or.inl rfl, Or.inl rfl, trivial⟩, ⟨Or.inl rfl, trivial⟩, rfl, rfl, rfl⟩)
  ·refine rqn_intro 3 ?_
   exact hnext (z6x0, z6x1, (wI (z6x2 + 1))) _ h hK ⟨(), wk_of (Or.inr ⟨⟨Or.inl rfl, Or.inl rfl, Or.inl rfl, Or.inl rfl, trivial⟩, ⟨Or.inl rfl, trivial⟩, rfl, rfl, rfl⟩)⟩
theorem q84_1_ok (n : Nat) : Owed q84_cx okT 84 q84_lp (n + 1) q84_1_lp := loop_owed (fun z y h => h) fun k zz qq cc yy K h hK next hnext => q84_1_step n k zz.1 zz.2.1 zz.2.2 yy K h hK next hnext
theorem q84_lpok : LpOk q84_cx okT q84_lp := LpOk_tab ⟨q84_0_ok, q84_1_ok, trivial⟩
def days_At_R (a0 : Int) (y : (Int × Int × Int) × Int) : Prop :=
  (∃ y1 : Bool, (days_day_R a0 y1) ∧ (br (!y1) (((0, (0, 0)), 2) = y) (∃ y5 : days_At_l0_Y, days_At_l0_L ((IntKind.wrap .i64 (a0 + 719468)), 0, 0) y5 ∧ (∃ y10 : days_At_l1_Y, days_At_l1_L ((y5.1), (y5.2), 0) y10 ∧ (∃ y11 : Int, (days_months_R y10 y11) ∧ (br (decide ((IntKind.wrap .i64 (y10 + 3)) > 12)) ((((IntKind.wrap .i64 ((y5.2) + 1)), ((IntKind.wrap .i64 ((IntKind.wrap .i64 (y10 + 3)) - 12)), (IntKind.wrap .i64 ((IntKind.wrap .i64 ((y5.1) - y11)) + 1)))), 0) = y) ((((y5.2), ((IntKind.wrap .i64 (y10 + 3)), (IntKind.wrap .i64 ((IntKind.wrap .i64 ((y5.1) - y11)) + 1)))), 0) = y)))))))
theorem q84_tree (a0 : Int) (y : (Int × Int × Int) × Int) : acall q84_cx okT q84_lp 60 (.fn 84 [] []) [(V.int .i64 a0)] [] (leafK (.tup (.cons (.agg (.cons (.int .i64) (.cons (.int .i64) (.one (.int .i64))))) (.one (.int .i64)))) y) =
    (rqn 3 (∃ y1 : Bool, (days_day_R a0 y1) ∧ (req true (br (!y1) (rqn 2 (req true (((0, (0, 0)), 2) = y))) (rqn 10 (((none : Option Nat) = (none : Option Nat)) ∧ (q84_0_body = q84_0_body) ∧ ∃ z4 : days_At_l0_Z, ∃ z4q : q84_0_Q, ∃ y5 : days_At_l0_Y, (1 = 1) ∧ (∃ zc : q84_0_C, wk 1 ⟨[(0, (vi (wI (a0 + 719468)))), (2, (V.ptr 0 0)), (3, (vi 0)), (12, (vb (!y1))), (4, (vi 0)), (20, (V.agg [(vi 146097), (vi 400), (vi 100), (vi 36524), (vi 100), (vi 3), (vi 1461), (vi 4), (vi 24), (vi 365), (vi 1), (vi 3)])), (21, (vi 0))], [(Blk.cells [(vi 0), (vi 0), (vi 0)])], []⟩ (q84_0_st z4 z4q zc)) ∧ (∃ k, days_At_l0 k z4 y5) ∧ (req true (((none : Option Nat) = (none : Option Nat)) ∧ (q84_1_body = q84_1_body) ∧ ∃ z9 : days_At_l1_Z, ∃ z9q : q84_1_Q, ∃ y10 : days_At_l1_Y, (1 = 1) ∧ (∃ zc : q84_1_C, wk 1 ⟨[(0, (vi (y5.1))), (2, (V.ptr 0 0)), (4, (vi (y5.2))), (8, (vi 0))], [(Blk.cells [(vi 0), (vi 0), (vi 0)])], []⟩ (q84_1_st z9 z9q zc)) ∧ (∃ k, days_At_l1 k z9 y10) ∧ (rqn 6 (∃ y11 : Int, (days_months_R y10 y11) ∧ (rqn 6 (br (decide ((wI (y10 + 3)) > 12)) (rqn 9 (req true ((((wI ((z9.2.1) + 1)), ((wI ((wI (y10 + 3)) - 12)), (wI ((wI ((z9.1) - y11)) + 1)))), 0) = y))) (rqn 2 (req true ((((z9.2.1), ((wI (y10 + 3)), (wI ((wI ((z9.1) - y11)) + 1)))), 0) = y))))))))))))))) := by kernel_rfl
theorem q84_run (a0 : Int) (y : (Int × Int × Int) × Int) (h : days_At_R a0 y) : acall q84_cx okT q84_lp 60 (.fn 84 [] []) [(V.int .i64 a0)] [] (leafK (.tup (.cons (.agg (.cons (.int .i64) (.cons (.int .i64) (.one (.int .i64))))) (.one (.int .i64)))) y) := by
  refine cast (q84_tree a0 y).symm ?_
  unfold days_At_R at h
  refine rqn_intro 3 ?_
  refine ex_both h fun y1 h => ?_
  refine req_intro rfl ?_
  refine br_both h (fun hb h => ?_) (fun hb h => ?_)
  ·refine rqn_intro 2 ?_
   exact req_intro rfl h
  ·refine rqn_intro 10 ?_
   obtain ⟨y5, ry5, h⟩ := h
   refine ⟨rfl, rfl, ((wI (a0 + 719468)), 0, 0), (), y5, rfl, ⟨(), wk_of (Or.inr ⟨⟨Or.inl rfl, Or.inl rfl, Or.inl rfl, Or.inl rfl, Or.inl rfl, trivial⟩, ⟨Or.inl rfl, trivial⟩, rfl, rfl, rfl⟩)⟩, ry5, ?_⟩
   refine req_intro rfl ?_
   obtain ⟨y10, ry10, h⟩ := h
   refine ⟨rfl, rfl, ((y5.1), (y5.2), 0), (), y10, rfl, ⟨(), wk_of (Or.inr ⟨⟨Or.inl rfl, Or.inl rfl, Or.inl rfl, Or.inl rfl, trivial⟩, ⟨Or.inl rfl, trivial⟩, rfl, rfl, rfl⟩)⟩, ry10, ?_⟩
   refine rqn_intro 6 ?_
   refine ex_both h fun y11 h => ?_
   refine rqn_intro 6 ?_
   refine br_both h (fun hb h => ?_) (fun hb h => ?_)
   ·refine rqn_intro 9 ?_
    exact req_intro rfl h
   ·refine rqn_intro 2 ?_
    exact req_intro rfl h
theorem days_At_ok : FxOk Tryd.prog gsT 84 (.one (.int .i64)) (.tup (.cons (.agg (.cons (.int .i64) (.cons (.int .i64) (.one (.int .i64))))) (.one (.int .i64)))) fun x y => days_At_R x y := fx_of (c := q84_cx) (ty_ok rfl) (eq_ok rfl) q84_fns follows_ok (ok := okT) (lp := q84_lp) (n := 60) q84_lpok (enters Tryd.func84 (by kernel_rfl) rfl) (fun y => ⟨_, rfl⟩) fun x y h => q84_run _ y h
noncomputable def q136_cx : Cx := ⟨tyT, [(136, .body Tryd.f136)], gsT, eqT⟩
theorem q136_fns : FnsOk Tryd.prog q136_cx := Fns_assoc ⟨body_ent Tryd.func136 (by kernel_rfl) (by kernel_rfl), trivial⟩
def math_bits_OnesCount64_R (a0 : Int) (y : Int) : Prop :=
  ((IntKind.wrap .i64 (BitVec.toNat (BitVec.ofInt (IntKind.bits .i64) (IntKind.wrap .i64 (IntKind.wrap .u64 ((IntKind.wrap .u64 ((IntKind.wrap .u64 ((IntKind.wrap .u64 (BitVec.toNat (BitVec.ofInt (IntKind.bits .u64) (IntKind.wrap .u64 ((Int.fdiv (IntKind.wrap .u64 ((IntKind.wrap .u64 (BitVec.toNat (BitVec.ofInt (IntKind.bits .u64) (Int.fdiv (IntKind.wrap .u64 ((IntKind.wrap .u64 (BitVec.toNat (BitVec.ofInt (IntKind.bits .u64) (Int.fdiv a0 (2 ^ 1)) &&& BitVec.ofInt (IntKind.bits .u64) 6148914691236517205))) + (IntKind.wrap .u64 (BitVec.toNat (BitVec.ofInt (IntKind.bits .u64) a0 &&& BitVec.ofInt (IntKind.bits .u64) 6148914691236517205))))) (2 ^ 2)) &&& BitVec.ofInt (IntKind.bits .u64) 3689348814741910323))) + (IntKind.wrap .u64 (BitVec.toNat (BitVec.ofInt (IntKind.bits .u64) (IntKind.wrap .u64 ((IntKind.wrap .u64 (BitVec.toNat (BitVec.ofInt (IntKind.bits .u64) (Int.fdiv a0 (2 ^ 1)) &&& BitVec.ofInt (IntKind.bits .u64) 6148914691236517205))) + (IntKind.wrap .u64 (BitVec.toNat (BitVec.ofInt (IntKind.bits .u64) a0 &&& BitVec.ofInt (IntKind.bits .u64) 6148914691236517205))))) &&& BitVec.ofInt (IntKind.bits .u64) 3689348814741910323))))) (2 ^ 4)) + (IntKind.wrap .u64 ((IntKind.wrap .u64 (BitVec.toNat (BitVec.ofInt (IntKind.bits .u64) (Int.fdiv (IntKind.wrap .u64 ((IntKind.wrap .u64 (BitVec.toNat (BitVec.ofInt (IntKind.bits .u64) (Int.fdiv a0 (2 ^ 1)) &&& BitVec.ofInt (IntKind.bits .u64) 6148914691236517205))) + (IntKind.wrap .u64 (BitVec.toNat (BitVec.ofInt (IntKind.bits .u64) a0 &&& BitVec.ofInt (IntKind.bits .u64) 6148914691236517205))))) (2 ^ 2)) &&& BitVec.ofInt (IntKind.bits .u64) 3689348814741910323))) + (IntKind.wrap .u64 (BitVec.toNat (BitVec.ofInt (IntKind.bits .u64) (IntKind.wrap .u64 ((IntKind.wrap .u64 (BitVec.toNat (BitVec.ofInt (IntKind.bits .u64) (Int.fdiv a0 (2 ^ 1)) &&& BitVec.ofInt (IntKind.bits .u64) 6148914691236517205))) + (IntKind.wrap .u64 (BitVec.toNat (BitVec.ofInt (IntKind.bits .u64) a0 &&& BitVec.ofInt (IntKind.bits .u64) 6148914691236517205))))) &&& BitVec.ofInt (IntKind.bits .u64) 3689348814741910323))))))) &&& BitVec.ofInt (IntKind.bits .u64) 1085102592571150095))) + (Int.fdiv (IntKind.wrap .u64 (BitVec.toNat (BitVec.ofInt (IntKind.bits .u64) (IntKind.wrap .u64 ((Int.fdiv (IntKind.wrap .u64 ((IntKind.wrap .u64 (BitVec.toNat (BitVec.ofInt (IntKind.bits .u64) (Int.fdiv (IntKind.wrap .u64 ((IntKind.wrap .u64 (BitVec.toNat (BitVec.ofInt (IntKind.bits .u64) (Int.fdiv a0 (2 ^ 1)) &&& BitVec.ofInt (IntKind.bits .u64) 6148914691236517205))) + (IntKind.wrap .u64 (BitVec.toNat (BitVec.ofInt (IntKind.bits .u64) a0 &&& BitVec.ofInt (IntKind.bits .u64) 6148914691236517205))))) (2 ^ 2)) &&& BitVec.ofInt (IntKind.bits .u64) 3689348814741910323))) + (IntKind.wrap .u64 (BitVec.toNat (BitVec.ofInt (IntKind.bits .u64) (IntKind.wrap .u64 ((IntKind.wrap .u64 (BitVec.toNat (BitVec.ofInt (IntKind.bits .u64) (Int.fdiv a0 (2 ^ 1)) &&& BitVec.ofInt (IntKind.bits .u64) 6148914691236517205))) + (IntKind.wrap .u64 (BitVec.toNat (BitVec.ofInt (IntKind.bits .u64) a0 &&& BitVec.ofInt (IntKind.bits .u64) 6148914691236517205))))) &&& BitVec.ofInt (IntKind.bits .u64) 3689348814741910323))))) (2 ^ 4)) + (IntKind.wrap .u64 ((IntKind.wrap .u64 (BitVec.toNat (BitVec.ofInt (IntKind.bits .u64) (Int.fdiv (IntKind.wrap .u64 ((IntKind.wrap .u64 (BitVec.toNat (BitVec.ofInt (IntKind.bits .u64) (Int.fdiv a0 (2 ^ 1)) &&& BitVec.ofInt (IntKind.bits .u64) 6148914691236517205))) + (IntKind.wrap .u64 (BitVec.toNat (BitVec.ofInt (IntKind.bits .u64) a0 &&& BitVec.ofInt (IntKind.bits .u64) 6148914691236517205))))) (2 ^ 2)) &&& BitVec.ofInt (IntKind.bits .u64) 3689348814741910323))) + (IntKind.wrap .u64 (BitVec.toNat (BitVec.ofInt (IntKind.bits .u64) (IntKind.wrap .u64 ((IntKind.wrap .u64 (BitVec.toNat (BitVec.ofInt (IntKind.bits .u64) (Int.fdiv a0 (2 ^ 1)) &&& BitVec.ofInt (IntKind.bits .u64) 6148914691236517205))) + (IntKind.wrap .u64 (BitVec.toNat (BitVec.ofInt (IntKind.bits .u64) a0 &&& BitVec.ofInt (IntKind.bits .u64) 6148914691236517205))))) &&& BitVec.ofInt (IntKind.bits .u64) 3689348814741910323))))))) &&& BitVec.ofInt (IntKind.bits .u64) 1085102592571150095))) (2 ^ 8)))) + (Int.fdiv (IntKind.wrap .u64 ((IntKind.wrap .u64 (BitVec.toNat (BitVec.ofInt (IntKind.bits .u64) (IntKind.wrap .u64 ((Int.fdiv (IntKind.wrap .u64 ((IntKind.wrap .u64 (BitVec.toNat (BitVec.ofInt (IntKind.bits .u64) (Int.fdiv (IntKind.wrap .u64 ((IntKind.wrap .u64 (BitVec.toNat (BitVec.ofInt (IntKind.bits .u64) (Int.fdiv a0 (2 ^ 1)) &&& BitVec.ofInt (IntKind.bits .u64) 6148914691236517205))) + (IntKind.wrap .u64 (BitVec.toNat (BitVec.ofInt (IntKind.bits .u64) a0 &&& BitVec.ofInt (IntKind.bits .u64) 6148914691236517205))))) (2 ^ 2)) &&& BitVec.ofInt (IntKind.bits .u64) 3689348814741910323))) + (IntKind.wrap .u64 (BitVec.toNat (BitVec.ofInt (IntKind.bits .u64) (IntKind.wrap .u64 ((IntKind.wrap .u64 (BitVec.toNat (BitVec.ofInt (IntKind.bits .u64) (Int.fdiv a0 (2 ^ 1)) &&& BitVec.ofInt (IntKind.bits .u64) 6148914691236517205))) + (IntKind.wrap .u64 (BitVec.toNat (BitVec.ofInt (IntKind.bits .u64) a0 &&& BitVec.ofInt (IntKind.bits .u64) 6148914691236517205))))) &&& BitVec.ofInt (IntKind.bits .u64) 3689348814741910323))))) (2 ^ 4)) + (IntKind.wrap .u64 ((IntKind.wrap .u64 (BitVec.toNat (BitVec.ofInt (IntKind.bits .u64) (Int.fdiv (IntKind.wrap .u64 ((IntKind.wrap .u64 (BitVec.toNat (BitVec.ofInt (IntKind.bits .u64) (Int.fdiv a0 (2 ^ 1)) &&& BitVec.ofInt (IntKind.bits .u64) 6148914691236517205))) + (IntKind.wrap .u64 (BitVec.toNat (BitVec.ofInt (IntKind.bits .u64) a0 &&& BitVec.ofInt (IntKind.bits .u64) 6148914691236517205))))) (2 ^ 2)) &&& BitVec.ofInt (IntKind.bits .u64) 3689348814741910323))) + (IntKind.wrap .u64 (BitVec.toNat (BitVec.ofInt (IntKind.bits .u64) (IntKind.wrap .u64 ((IntKind.wrap .u64 (BitVec.toNat (BitVec.ofInt (IntKind.bits .u64) (Int.fdiv a0 (2 ^ 1)) &&& BitVec.ofInt (IntKind.bits .u64) 6148914691236517205))) + (IntKind.wrap .u64 (BitVec.toNat (BitVec.ofInt (IntKind.bits .u64) a0 &&& BitVec.ofInt (IntKind.bits .u64) 6148914691236517205))))) &&& BitVec.ofInt (IntKind.bits .u64) 3689348814741910323))))))) &&& BitVec.ofInt (IntKind.bits .u64) 1085102592571150095))) + (Int.fdiv (IntKind.wrap .u64 (BitVec.toNat (BitVec.ofInt (IntKind.bits .u64) (IntKind.wrap .u64 ((Int.fdiv (IntKind.wrap .u64 ((IntKind.wrap .u64 (BitVec.toNat (BitVec.ofInt (IntKind.bits .u64) (Int.fdiv (IntKind.wrap .u64 ((IntKind.wrap .u64 (BitVec.toNat (BitVec.ofInt (IntKind.bits .u64) (Int.fdiv a0 (2 ^ 1)) &&& BitVec.ofInt (IntKind.bits .u64) 6148914691236517205))) + (IntKind.wrap .u64 (BitVec.toNat (BitVec.ofInt (IntKind.bits .u64) a0 &&& BitVec.ofInt (IntKind.bits .u64) 6148914691236517205))))) (2 ^ 2)) &&& BitVec.ofInt (IntKind.bits .u64) 3689348814741910323))) + (IntKind.wrap .u64 (BitVec.toNat (BitVec.ofInt (IntKind.bits .u64) (IntKind.wrap .u64 ((IntKind.wrap .u64 (BitVec.toNat (BitVec.ofInt (IntKind.bits .u64) (Int.fdiv a0 (2 ^ 1)) &&& BitVec.ofInt (IntKind.bits .u64) 6148914691236517205))) + (IntKind.wrap .u64 (BitVec.toNat (BitVec.ofInt (IntKind.bits .u64) a0 &&& BitVec.ofInt (IntKind.bits .u64) 6148914691236517205))))) &&& BitVec.ofInt (IntKind.bits .u64) 3689348814741910323))))) (2 ^ 4)) + (IntKind.wrap .u64 ((IntKind.wrap .u64 (BitVec.toNat (BitVec.ofInt (IntKind.bits .u64) (Int.fdiv (IntKind.wrap .u64 ((IntKind.wrap .u64 (BitVec.toNat (BitVec.ofInt (IntKind.bits .u64) (Int.fdiv a0 (2 ^ 1)) &&& BitVec.ofInt (IntKind.bits .u64) 6148914691236517205))) + (IntKind.wrap .u64 (BitVec.toNat (BitVec.ofInt (IntKind.bits .u64) a0 &&& BitVec.ofInt (IntKind.bits .u64) 6148914691236517205))))) (2 ^ 2)) &&& BitVec.ofInt (IntKind.bits .u64) 3689348814741910323))) + (IntKind.wrap .u64 (BitVec.toNat (BitVec.ofInt (IntKind.bits .u64) (IntKind.wrap .u64 ((IntKind.wrap .u64 (BitVec.toNat (BitVec.ofInt (IntKind.bits .u64) (Int.fdiv a0 (2 ^ 1)) &&& BitVec.ofInt (IntKind.bits .u64) 6148914691236517205))) + (IntKind.wrap .u64 (BitVec.toNat (BitVec.ofInt (IntKind.bits .u64) a0 &&& BitVec.ofInt (IntKind.bits .u64) 6148914691236517205))))) &&& BitVec.ofInt (IntKind.bits .u64) 3689348814741910323))))))) &&& BitVec.ofInt (IntKind.bits .u64) 1085102592571150095))) (2 ^ 8)))) (2 ^ 16)))) + (Int.fdiv (IntKind.wrap .u64 ((IntKind.wrap .u64 ((IntKind.wrap .u64 (BitVec.toNat (BitVec.ofInt (IntKind.bits .u64) (IntKind.wrap .u64 ((Int.fdiv (IntKind.wrap .u64 ((IntKind.wrap .u64 (BitVec.toNat (BitVec.ofInt (IntKind.bits .u64) (Int.fdiv (IntKind.wrap .u64 ((IntKind.wrap .u64 (BitVec.toNat (BitVec.ofInt (IntKind.bits .u64) (Int.fdiv a0 (2 ^ 1)) &&& BitVec.ofInt (IntKind.bits .u64) 6148914691236517205))) + (IntKind.wrap .u64 (BitVec.toNat (BitVec.ofInt (IntKind.bits .u64) a0 &&& BitVec.ofInt (IntKind.bits .u64) 6148914691236517205))))) (2 ^ 2)) &&& BitVec.ofInt (IntKind.bits .u64) 3689348814741910323))) + (IntKind.wrap .u64 (BitVec.toNat (BitVec.ofInt (IntKind.bits .u64) (IntKind.wrap .u64 ((IntKind.wrap .u64 (BitVec.toNat (BitVec.ofInt (IntKind.bits .u64) (Int.fdiv a0 (2 ^ 1)) &&& BitVec.ofInt (IntKind.bits .u64) 6148914691236517205))) + (IntKind.wrap .u64 (BitVec.toNat (BitVec.ofInt (IntKind.bits .u64) a0 &&& BitVec.ofInt (IntKind.bits .u64) 6148914691236517205))))) &&& BitVec.ofInt (IntKind.bits .u64) 3689348814741910323))))) (2 ^ 4)) + (IntKind.wrap .u64 ((IntKind.wrap .u64 (BitVec.toNat (BitVec.ofInt (IntKind.bits .u64) (Int.fdiv (IntKind.wrap .u64 ((IntKind.wrap .u64 (BitVec.toNat (BitVec.ofInt (IntKind.bits .u64) (Int.fdiv a0 (2 ^ 1)) &&& BitVec.ofInt (IntKind.bits .u64) 6148914691236517205))) + (IntKind.wrap .u64 (BitVec.toNat (BitVec.ofInt (IntKind.bits .u64) a0 &&& BitVec.ofInt (IntKind.bits .u64) 6148914691236517205))))) (2 ^ 2)) &&& BitVec.ofInt (IntKind.bits .u64) 3689348814741910323))) + (IntKind.wrap .u64 (BitVec.toNat (BitVec.ofInt (IntKind.bits .u64) (IntKind.wrap .u64 ((IntKind.wrap .u64 (BitVec.toNat (BitVec.ofInt (IntKind.bits .u64) (Int.fdiv a0 (2 ^ 1)) &&& BitVec.ofInt (IntKind.bits .u64) 6148914691236517205))) + (IntKind.wrap .u64 (BitVec.toNat (BitVec.ofInt (IntKind.bits .u64) a0 &&& BitVec.ofInt (IntKind.bits .u64) 6148914691236517205))))) &&& BitVec.ofInt (IntKind.bits .u64) 3689348814741910323))))))) &&& BitVec.ofInt (IntKind.bits .u64) 1085102592571150095))) + (Int.fdiv (IntKind.wrap .u64 (BitVec.toNat (BitVec.ofInt (IntKind.bits .u64) (IntKind.wrap .u64 ((Int.fdiv (IntKind.wrap .u64 ((IntKind.wrap .u64 (BitVec.toNat (BitVec.ofInt (IntKind.bits .u64) (Int.fdiv (IntKind.wrap .u64 ((IntKind.wrap .u64 (BitVec.toNat (BitVec.ofInt (IntKind.bits .u64) (Int.fdiv a0 (2 ^ 1)) &&& BitVec.ofInt (IntKind.bits .u64) 6148914691236517205))) + (IntKind.wrap .u64 (BitVec.toNat (BitVec.ofInt (IntKind.bits .u64) a0 &&& BitVec.ofInt (IntKind.bits .u64) 6148914691236517205))))) (2 ^ 2)) &&& BitVec.ofInt (IntKind.bits .u64) 3689348814741910323))) + (IntKind.wrap .u64 (BitVec.toNat (BitVec.ofInt (IntKind.bits .u64) (IntKind.wrap .u64 ((IntKind.wrap .u64 (BitVec.toNat (BitVec.ofInt (IntKind.bits .u64) (Int.fdiv a0 (2 ^ 1)) &&& BitVec.ofInt (IntKind.bits .u64) 6148914691236517205))) + (IntKind.wrap .u64 (BitVec.toNat (BitVec.ofInt (IntKind.bits .u64) a0 &&& BitVec.ofInt (IntKind.bits .u64) 6148914691236517205))))) &&& BitVec.ofInt (IntKind.bits .u64) 3689348814741910323))))) (2 ^ 4)) + (IntKind.wrap .u64 ((IntKind.wrap .u64 (BitVec.toNat (BitVec.ofInt (IntKind.bits .u64) (Int.fdiv (IntKind.wrap .u64 ((IntKind.wrap .u64 (BitVec.toNat (BitVec.ofInt (IntKind.bits .u64) (Int.fdiv a0 (2 ^ 1)) &&& BitVec.ofInt (IntKind.bits .u64) 6148914691236517205))) + (IntKind.wrap .u64 (BitVec.toNat (BitVec.ofInt (IntKind.bits .u64) a0 &&& BitVec.ofInt (IntKind.bits .u64) 6148914691236517205))))) (2 ^ 2)) &&& BitVec.ofInt (IntKind.bits .u64) 3689348814741910323))) + (IntKind.wrap .u64 (BitVec.toNat (BitVec.ofInt (IntKind.bits .u64) (IntKind.wrap .u64 ((IntKind.wrap .u64 (BitVec.toNat (BitVec.ofInt (IntKind.bits .u64) (Int.fdiv a0 (2 ^ 1)) &&& BitVec.ofInt (IntKind.bits .u64) 6148914691236517205))) + (IntKind.wrap .u64 (BitVec.toNat (BitVec.ofInt (IntKind.bits .u64) a0 &&& BitVec.ofInt (IntKind.bits .u64) 6148914691236517205))))) &&& BitVec.ofInt (IntKind.bits .u64) 3689348814741910323))))))) &&& BitVec.ofInt (IntKind.bits .u64) 1085102592571150095))) (2 ^ 8)))) + (Int.fdiv (IntKind.wrap .u64 ((IntKind.wrap .u64 (BitVec.toNat (BitVec.ofInt (IntKind.bits .u64) (IntKind.wrap .u64 ((Int.fdiv (IntKind.wrap .u64 ((IntKind.wrap .u64 (BitVec.toNat (BitVec.ofInt (IntKind.bits .u64) (Int.fdiv (IntKind.wrap .u64 ((IntKind.wrap .u64 (BitVec.toNat (BitVec.ofInt (IntKind.bits .u64) (Int.fdiv a0 (2 ^ 1)) &&& BitVec.ofInt (IntKind.bits .u64) 6148914691236517205))) + (IntKind.wrap .u64 (BitVec.toNat (BitVec.ofInt (IntKind.bits .u64) a0 &&& BitVec.ofInt (IntKind.bits .u64) 6148914691236517205))))) (2 ^ 2)) &&& BitVec.ofInt (IntKind.bits .u64) 3689348814741910323))) + (IntKind.wrap .u64 (BitVec.toNat (BitVec.ofInt (IntKind.bits .u64) (IntKind.wrap .u64 ((IntKind.wrap .u64 (BitVec.toNat (BitVec.ofInt (IntKind.bits .u64) (Int.fdiv a0 (2 ^ 1)) &&& BitVec.ofInt (IntKind.bits .u64) 6148914691236517205))) + (IntKind.wrap .u64 (BitVec.toNat (BitVec.ofInt (IntKind.bits .u64) a0 &&& BitVec.ofInt (IntKind.bits .u64) 6148914691236517205))))) &&& BitVec.ofInt (IntKind.bits .u64) 3689348814741910323))))) (2 ^ 4)) + (IntKind.wrap .u64 ((IntKind.wrap .u64 (BitVec.toNat (BitVec.ofInt (IntKind.bits .u64) (Int.fdiv (IntKind.wrap .u64 ((IntKind.wrap .u64 (BitVec.toNat (BitVec.ofInt (IntKind.bits .u64) (Int.fdiv a0 (2 ^ 1)) &&& BitVec.ofInt (IntKind.bits .u64) 6148914691236517205))) + (IntKind.wrap .u64 (BitVec.toNat (BitVec.ofInt (IntKind.bits .u64) a0 &&& BitVec.ofInt (IntKind.bits .u64) 6148914691236517205))))) (2 ^ 2)) &&& BitVec.ofInt (IntKind.bits .u64) 3689348814741910323))) + (IntKind.wrap .u64 (BitVec.toNat (BitVec.ofInt (IntKind.bits .u64) (IntKind.wrap .u64 ((IntKind.wrap .u64 (BitVec.toNat (BitVec.ofInt (IntKind.bits .u64) (Int.fdiv a0 (2 ^ 1)) &&& BitVec.ofInt (IntKind.bits .u64) 6148914691236517205))) + (IntKind.wrap .u64 (BitVec.toNat (BitVec.ofInt (IntKind.bits .u64) a0 &&& BitVec.ofInt (IntKind.bits .u64) 6148914691236517205))))) &&& BitVec.ofInt (IntKind.bits .u64) 3689348814741910323))))))) &&& BitVec.ofInt (IntKind.bits .u64) 1085102592571150095))) + (Int.fdiv (IntKind.wrap .u64 (BitVec.toNat (BitVec.ofInt (IntKind.bits .u64) (IntKind.wrap .u64 ((Int.fdiv (IntKind.wrap .u64 ((IntKind.wrap .u64 (BitVec.toNat (BitVec.ofInt (IntKind.bits .u64) (Int.fdiv (IntKind.wrap .u64 ((IntKind.wrap .u64 (BitVec.toNat (BitVec.ofInt (IntKind.bits .u64) (Int.fdiv a0 (2 ^ 1)) &&& BitVec.ofInt (IntKind.bits .u64) 6148914691236517205))) + (IntKind.wrap .u64 (BitVec.toNat (BitVec.ofInt (IntKind.bits .u64) a0 &&& BitVec.ofInt (IntKind.bits .u64) 6148914691236517205))))) (2 ^ 2)) &&& BitVec.ofInt (IntKind.bits .u64) 3689348814741910323))) + (IntKind.wrap .u64 (BitVec.toNat (BitVec.ofInt (IntKind.bits .u64) (IntKind.wrap .u64 ((IntKind.wrap .u64 (BitVec.toNat (BitVec.ofInt (IntKind.bits .u64) (Int.fdiv a0 (2 ^ 1)) &&& BitVec.ofInt (IntKind.bits .u64) 6148914691236517205))) + (IntKind.wrap .u64 (BitVec.toNat (BitVec.ofInt (IntKind.bits .u64) a0 &&& BitVec.ofInt (IntKind.bits .u64) 6148914691236517205))))) &&& BitVec.ofInt (IntKind.bits .u64) 3689348814741910323))))) (2 ^ 4)) + (IntKind.wrap .u64 ((IntKind.wrap .u64 (BitVec.toNat (BitVec.ofInt (IntKind.bits .u64) (Int.fdiv (IntKind.wrap .u64 ((IntKind.wrap .u64 (BitVec.toNat (BitVec.ofInt (IntKind.bits .u64) (Int.fdiv a0 (2 ^ 1)) &&& BitVec.ofInt (IntKind.bits .u64) 6148914691236517205))) + (IntKind.wrap .u64 (BitVec.toNat (BitVec.ofInt (IntKind.bits .u64) a0 &&& BitVec.ofInt (IntKind.bits .u64) 6148914691236517205))))) (2 ^ 2)) &&& BitVec.ofInt (IntKind.bits .u64) 3689348814741910323))) + (IntKind.wrap .u64 (BitVec.toNat (BitVec.ofInt (IntKind.bits .u64) (IntKind.wrap .u64 ((IntKind.wrap .u64 (BitVec.toNat (BitVec.ofInt (IntKind.bits .u64) (Int.fdiv a0 (2 ^ 1)) &&& BitVec.ofInt (IntKind.bits .u64) 6148914691236517205))) + (IntKind.wrap .u64 (BitVec.toNat (BitVec.ofInt (IntKind.bits .u64) a0 &&& BitVec.ofInt (IntKind.bits .u64) 6148914691236517205))))) &&& BitVec.ofInt (IntKind.bits .u64) 3689348814741910323))))))) &&& BitVec.ofInt (IntKind.bits .u64) 1085102592571150095))) (2 ^ 8)))) (2 ^ 16)))) (2 ^ 32))))) &&& BitVec.ofInt (IntKind.bits .i64) 127))) = y)
theorem q136_tree (a0 : Int) (y : Int) : acall q136_cx okT lpT 60 (.fn 136 [] []) [(V.int .u64 a0)] [] (leafK (.int .i64) y) =
    (rqn 40 (req true ((wI (BitVec.toNat (BitVec.ofInt (IntKind.bits .i64) (wI (IntKind.wrap .u64 ((IntKind.wrap .u64 ((IntKind.wrap .u64 ((IntKind.wrap .u64 (BitVec.toNat (BitVec.ofInt (IntKind.bits .u64) (IntKind.wrap .u64 ((Int.fdiv (IntKind.wrap .u64 ((IntKind.wrap .u64 (BitVec.toNat (BitVec.ofInt (IntKind.bits .u64) (Int.fdiv (IntKind.wrap .u64 ((IntKind.wrap .u64 (BitVec.toNat (BitVec.ofInt (IntKind.bits .u64) (Int.fdiv a0 (2 ^ 1)) &&& BitVec.ofInt (IntKind.bits .u64) 6148914691236517205))) + (IntKind.wrap .u64 (BitVec.toNat (BitVec.ofInt (IntKind.bits .u64) a0 &&& BitVec.ofInt (IntKind.bits .u64) 6148914691236517205))))) (2 ^ 2)) &&& BitVec.ofInt (IntKind.bits .u64) 3689348814741910323))) + (IntKind.wrap .u64 (BitVec.toNat (BitVec.ofInt (IntKind.bits .u64) (IntKind.wrap .u64 ((IntKind.wrap .u64 (BitVec.toNat (BitVec.ofInt (IntKind.bits .u64) (Int.fdiv a0 (2 ^ 1)) &&& BitVec.ofInt (IntKind.bits .u64) 6148914691236517205))) + (IntKind.wrap .u64 (BitVec.toNat (BitVec.ofInt (IntKind.bits .u64) a0 &&& BitVec.ofInt (IntKind.bits .u64) 6148914691236517205))))) &&& BitVec.ofInt (IntKind.bits .u64) 3689348814741910323))))) (2 ^ 4)) + (IntKind.wrap .u64 ((IntKind.wrap .u64 (BitVec.toNat (BitVec.ofInt (IntKind.bits .u64) (Int.fdiv (IntKind.wrap .u64 ((IntKind.wrap .u64 (BitVec.toNat (BitVec.ofInt (IntKind.bits .u64) (Int.fdiv a0 (2 ^ 1)) &&& BitVec.ofInt (IntKind.bits .u64) 6148914691236517205))) + (IntKind.wrap .u64 (BitVec.toNat (BitVec.ofInt (IntKind.bits .u64) a0 &&& BitVec.ofInt (IntKind.bits .u64) 6148914691236517205))))) (2 ^ 2)) &&& BitVec.ofInt (IntKind.bits .u64) 3689348814741910323))) + (IntKind.wrap .u64 (BitVec.toNat (BitVec.ofInt (IntKind.bits .u64) (IntKind.wrap .u64 ((IntKind.wrap .u64 (BitVec.toNat (BitVec.ofInt (IntKind.bits .u64) (Int.fdiv a0 (2 ^ 1)) &&& BitVec.ofInt (IntKind.bits .u64) 6148914691236517205))) + (IntKind.wrap .u64 (BitVec.toNat (BitVec.ofInt (IntKind.bits .u64) a0 &&& BitVec.ofInt (IntKind.bits .u64) 6148914691236517205))))) &&& BitVec.ofInt (IntKind.bits .u64) 3689348814741910323))))))) &&& BitVec.ofInt (IntKind.bits .u64) 1085102592571150095))) + (Int.fdiv (IntKind.wrap .u64 (BitVec.toNat (BitVec.ofInt (IntKind.bits .u64) (IntKind.wrap .u64 ((Int.fdiv (IntKind.wrap .u64 ((IntKind.wrap .u64 (BitVec.toNat (BitVec.ofInt (IntKind.bits .u64) (Int.fdiv (IntKind.wrap .u64 ((IntKind.wrap .u64 (BitVec.toNat (BitVec.ofInt (IntKind.bits .u64) (Int.fdiv a0 (2 ^ 1)) &&& BitVec.ofInt (IntKind.bits .u64) 6148914691236517205))) + (IntKind.wrap .u64 (BitVec.toNat (BitVec.ofInt (IntKind.bits .u64) a0 &&& BitVec.ofInt (IntKind.bits .u64) 6148914691236517205))))) (2 ^ 2)) &&& BitVec.ofInt (IntKind.bits .u64) 3689348814741910323))) + (IntKind.wrap .u64 (BitVec.toNat (BitVec.ofInt (IntKind.bits .u64) (IntKind.wrap .u64 ((IntKind.wrap .u64 (BitVec.toNat (BitVec.ofInt (IntKind.bits .u64) (Int.fdiv a0 (2 ^ 1)) &&& BitVec.ofInt (IntKind.bits .u64) 6148914691236517205))) + (IntKind.wrap .u64 (BitVec.toNat (BitVec.ofInt (IntKind.bits .u64) a0 &&& BitVec.ofInt (IntKind.bits .u64) 6148914691236517205))))) &&& BitVec.ofInt (IntKind.bits .u64) 3689348814741910323))))) (2 ^ 4)) + (IntKind.wrap .u64 ((IntKind.wrap .u64 (BitVec.toNat (BitVec.ofInt (IntKind.bits .u64) (Int.fdiv (IntKind.wrap .u64 ((IntKind.wrap .u64 (BitVec.toNat (BitVec.ofInt (IntKind.bits .u64) (Int.fdiv a0 (2 ^ 1)) &&& BitVec.ofInt (IntKind.bits .u64) 6148914691236517205))) + (IntKind.wrap .u64 (BitVec.toNat (BitVec.ofInt (IntKind.bits .u64) a0 &&& BitVec.ofInt (IntKind.bits .u64) 6148914691236517205))))) (2 ^ 2)) &&& BitVec.ofInt (IntKind.bits .u64) 3689348814741910323))) + (IntKind.wrap .u64 (BitVec.toNat (BitVec.ofInt (IntKind.bits .u64) (IntKind.wrap .u64 ((IntKind.wrap .u64 (BitVec.toNat (BitVec.ofInt (IntKind.bits .u64) (Int.fdiv a0 (2 ^ 1)) &&& BitVec.ofInt (IntKind.bits .u64) 6148914691236517205))) + (IntKind.wrap .u64 (BitVec.toNat (BitVec.ofInt (IntKind.bits .u64) a0 &&& BitVec.ofInt (IntKind.bits .u64) 6148914691236517205))))) &&& BitVec.ofInt (IntKind.bits .u64) 3689348814741910323))))))) &&& BitVec.ofInt (IntKind.bits .u64) 1085102592571150095))) (2 ^ 8)))) + (Int.fdiv (IntKind.wrap .u64 ((IntKind.wrap .u64 (BitVec.toNat (BitVec.ofInt (IntKind.bits .u64) (IntKind.wrap .u64 ((Int.fdiv (IntKind.wrap .u64 ((IntKind.wrap .u64 (BitVec.toNat (BitVec.ofInt (IntKind.bits .u64) (Int.fdiv (IntKind.wrap .u64 ((IntKind.wrap .u64 (BitVec.toNat (BitVec.ofInt (IntKind.bits .u64) (Int.fdiv a0 (2 ^ 1)) &&& BitVec.ofInt (IntKind.bits .u64) 6148914691236517205))) + (IntKind.wrap .u64 (BitVec.toNat (BitVec.ofInt (IntKind.bits .u64) a0 &&& BitVec.ofInt (IntKind.bits .u64) 6148914691236517205))))) (2 ^ 2)) &&& BitVec.ofInt (IntKind.bits .u64) 3689348814741910323))) + (IntKind.wrap .u64 (BitVec.toNat (BitVec.ofInt (IntKind.bits .u64) (IntKind.wrap .u64 ((IntKind.wrap .u64 (BitVec.toNat (BitVec.ofInt (IntKind.bits .u64) (Int.fdiv a0 (2 ^ 1)) &&& BitVec.ofInt (IntKind.bits .u64) 6148914691236517205))) + (IntKind.wrap .u64 (BitVec.toNat (BitVec.ofInt (IntKind.bits .u64) a0 &&& BitVec.ofInt (IntKind.bits .u64) 6148914691236517205))))) &&& BitVec.ofInt (IntKind.bits .u64) 3689348814741910323))))) (2 ^ 4)) + (IntKind.wrap .u64 ((IntKind.wrap .u64 (BitVec.toNat (BitVec.ofInt (IntKind.bits .u64) (Int.fdiv (IntKind.wrap .u64 ((IntKind.wrap .u64 (BitVec.toNat (BitVec.ofInt (IntKind.bits .u64) (Int.fdiv a0 (2 ^ 1)) &&& BitVec.ofInt (IntKind.bits .u64) 6148914691236517205))) + (IntKind.wrap .u64 (BitVec.toNat (BitVec.ofInt (IntKind.bits .u64) a0 &&& BitVec.ofInt (IntKind.bits .u64) 6148914691236517205))))) (2 ^ 2)) &&& BitVec.ofInt (IntKind.bits .u64) 3689348814741910323))) + (IntKind.wrap .u64 (BitVec.toNat (BitVec.ofInt (IntKind.bits .u64) (IntKind.wrap .u64 ((IntKind.wrap .u64 (BitVec.toNat (BitVec.ofInt (IntKind.bits .u64) (Int.fdiv a0 (2 ^ 1)) &&& BitVec.ofInt (IntKind.bits .u64) 6148914691236517205))) + (IntKind.wrap .u64 (BitVec.toNat (BitVec.ofInt (IntKind.bits .u64) a0 &&& BitVec.ofInt (IntKind.bits .u64) 6148914691236517205))))) &&& BitVec.ofInt (IntKind.bits .u64) 3689348814741910323))))))) &&& BitVec.ofInt (IntKind.bits .u64) 1085102592571150095))) + (Int.fdiv (IntKind.wrap .u64 (BitVec.toNat (BitVec.ofInt (IntKind.bits .u64) (IntKind.wrap .u64 ((Int.fdiv (IntKind.wrap .u64 ((IntKind.wrap .u64 (BitVec.toNat (BitVec.ofInt (IntKind.bits .u64) (Int.fdiv (IntKind.wrap .u64 ((IntKind.wrap .u64 (BitVec.toNat (BitVec.ofInt (IntKind.bits .u64) (Int.fdiv a0 (2 ^ 1)) &&& BitVec.ofInt (IntKind.bits .u64) 6148914691236517205))) + (IntKind.wrap .u64 (BitVec.toNat (BitVec.ofInt (IntKind.bits .u64) a0 &&& BitVec.ofInt (IntKind.bits .u64) 6148914691236517205))))) (2 ^ 2)) &&& BitVec.ofInt (IntKind.bits .u64) 3689348814741910323))) + (IntKind.wrap .u64 (BitVec.toNat (BitVec.ofInt (IntKind.bits .u64) (IntKind.wrap .u64 ((IntKind.wrap .u64 (BitVec.toNat (BitVec.ofInt (IntKind.bits .u64) (Int.fdiv a0 (2 ^ 1)) &&& BitVec.ofInt (IntKind.bits .u64) 6148914691236517205))) + (IntKind.wrap .u64 (BitVec.toNat (BitVec.ofInt (IntKind.bits .u64) a0 &&& BitVec.ofInt (IntKind.bits .u64) 6148914691236517205))))) &&& BitVec.ofInt (IntKind.bits .u64) 3689348814741910323))))) (2 ^ 4)) + (IntKind.wrap .u64 ((IntKind.wrap .u64 (BitVec.toNat (BitVec.ofInt (IntKind.bits .u64) (Int.fdiv (IntKind.wrap .u64 ((IntKind.wrap .u64 (BitVec.toNat (BitVec.ofInt (IntKind.bits .u64) (Int.fdiv a0 (2 ^ 1)) &&& BitVec.ofInt (IntKind.bits .u64) 6148914691236517205))) + (IntKind.wrap .u64 (BitVec.toNat (BitVec.ofInt (IntKind.bits .u64) a0 &&& BitVec.ofInt (IntKind.bits .u64) 6148914691236517205))))) (2 ^ 2)) &&& BitVec.ofInt (IntKind.bits .u64) 3689348814741910323))) + (IntKind.wrap .u64 (BitVec.toNat (BitVec.ofInt (IntKind.bits .u64) (IntKind.wrap .u64 ((IntKind.wrap .u64 (BitVec.toNat (BitVec.ofInt (IntKind.bits .u64) (Int.fdiv a0 (2 ^ 1)) &&& BitVec.ofInt (IntKind.bits .u64) 6148914691236517205))) + (IntKind.wrap .u64 (BitVec.toNat (BitVec.ofInt (IntKind.bits .u64) a0 &&& BitVec.ofInt (IntKind.bits .u64) 6148914691236517205))))) &&& BitVec.ofInt (IntKind.bits .u64) 3689348814741910323))))))) &&& BitVec.ofInt (IntKind.bits .u64) 1085102592571150095))) (2 ^ 8)))) (2 ^ 16)))) + (Int.fdiv (IntKind.wrap .u64 ((IntKind.wrap .u64 ((IntKind.wrap .u64 (BitVec.toNat (BitVec.ofInt (IntKind.bits .u64) (IntKind.wrap .u64 ((Int.fdiv (IntKind.wrap .u64 ((IntKind.wrap .u64 (BitVec.toNat (BitVec.ofInt (IntKind.bits .u64) (Int.fdiv (IntKind.wrap .u64 ((IntKind.wrap .u64 (BitVec.toNat (BitVec.ofInt (IntKind.bits .u64) (Int.fdiv a0 (2 ^ 1)) &&& BitVec.ofInt (IntKind.bits .u64) 6148914691236517205))) + (IntKind.wrap .u64 (BitVec.toNat (BitVec.ofInt (IntKind.bits .u64) a0 &&& BitVec.ofInt (IntKind.bits .u64) 6148914691236517205))))) (2 ^ 2)) &&& BitVec.ofInt (IntKind.bits .u64) 3689348814741910323))) + (IntKind.wrap .u64 (BitVec.toNat (BitVec.ofInt (IntKind.bits .u64) (IntKind.wrap .u64 ((IntKind.wrap .u64 (BitVec.toNat (BitVec.ofInt (IntKind.bits .u64) (Int.fdiv a0 (2 ^ 1)) &&& BitVec.ofInt (IntKind.bits .u64) 6148914691236517205))) + (IntKind.wrap .u64 (BitVec.toNat (BitVec.ofInt (IntKind.bits .u64) a0 &&& BitVec.ofInt (IntKind.bits .u64) 6148914691236517205))))) &&& BitVec.ofInt (IntKind.bits .u64) 3689348814741910323))))) (2 ^ 4)) + (IntKind.wrap .u64 ((IntKind.wrap .u64 (BitVec.toNat (BitVec.ofInt (IntKind.bits .u64) (Int.fdiv (IntKind.wrap .u64 ((IntKind.wrap .u64 (BitVec.toNat (BitVec.ofInt (IntKind.bits .u64) (Int.fdiv a0 (2 ^ 1)) &&& BitVec.ofInt (IntKind.bits .u64) 6148914691236517205))) + (IntKind.wrap .u64 (BitVec.toNat (BitVec.ofInt (IntKind.bits .u64) a0 &&& BitVec.ofInt (IntKind.bits .u64) 6148914691236517205))))) (2 ^ 2)) &&& BitVec.ofInt (IntKind.bits .u64) 3689348814741910323))) + (IntKind.wrap .u64 (BitVec.toNat (BitVec.ofInt (IntKind.bits .u64) (IntKind.wrap .u64 ((IntKind.wrap .u64 (BitVec.toNat (BitVec.ofInt (IntKind.bits .u64) (Int.fdiv a0 (2 ^ 1)) &&& BitVec.ofInt (IntKind.bits .u64) 6148914691236517205))) + (IntKind.wrap .u64 (BitVec.toNat (BitVec.ofInt (IntKind.bits .u64) a0 &&& BitVec.ofInt (IntKind.bits .u64) 6148914691236517205))))) &&& BitVec.ofInt (IntKind.bits .u64) 3689348814741910323))))))) &&& BitVec.ofInt (IntKind.bits .u64) 1085102592571150095))) + (Int.fdiv (IntKind.wrap .u64 (BitVec.toNat (BitVec.ofInt (IntKind.bits .u64) (IntKind.wrap .u64 ((Int.fdiv (IntKind.wrap .u64 ((IntKind.wrap .u64 (BitVec.toNat (BitVec.ofInt (IntKind.bits .u64) (Int.fdiv (IntKind.wrap .u64 ((IntKind.wrap .u64 (BitVec.toNat (BitVec.ofInt (IntKind.bits .u64) (Int.fdiv a0 (2 ^ 1)) &&& BitVec.ofInt (IntKind.bits .u64) 6148914691236517205))) + (IntKind.wrap .u64 (BitVec.toNat (BitVec.ofInt (IntKind.bits .u64) a0 &&& BitVec.ofInt (IntKind.bits .u64) 6148914691236517205))))) (2 ^ 2)) &&& BitVec.ofInt (IntKind.bits .u64) 3689348814741910323))) + (IntKind.wrap .u64 (BitVec.toNat (BitVec.ofInt (IntKind.bits .u64) (IntKind.wrap .u64 ((IntKind.wrap .u64 (BitVec.toNat (BitVec.ofInt (IntKind.bits .u64) (Int.fdiv a0 (2 ^ 1)) &&& BitVec.ofInt (IntKind.bits .u64) 6148914691236517205))) + (IntKind.wrap .u64 (BitVec.toNat (BitVec.ofInt (IntKind.bits .u64) a0 &&& BitVec.ofInt (IntKind.bits .u64) 6148914691236517205))))) &&& BitVec.ofInt (IntKind.bits .u64) 3689348814741910323))))) (2 ^ 4)) + (IntKind.wrap .u64 ((IntKind.wrap .u64 (BitVec.toNat (BitVec.ofInt (IntKind.bits .u64) (Int.fdiv (IntKind.wrap .u64 ((IntKind.wrap .u64 (BitVec.toNat (BitVec.ofInt (IntKind.bits .u64) (Int.fdiv a0 (2 ^ 1)) &&& BitVec.ofInt (IntKind.bits .u64) 6148914691236517205))) + (IntKind.wrap .u64 (BitVec.toNat (BitVec.ofInt (IntKind.bits .u64) a0 &&& BitVec.ofInt (IntKind.bits .u64) 6148914691236517205))))) (2 ^ 2)) &&& BitVec.ofInt (IntKind.bits .u64) 3689348814741910323))) + (IntKind.wrap .u64 (BitVec.toNat (BitVec.ofInt (IntKind.bits .u64) (IntKind.wrap .u64 ((IntKind.wrap .u64 (BitVec.toNat (BitVec.ofInt (IntKind.bits .u64) (Int.fdiv a0 (2 ^ 1)) &&& BitVec.ofInt (IntKind.bits .u64) 6148914691236517205))) + (IntKind.wrap .u64 (BitVec.toNat (BitVec.ofInt (IntKind.bits .u64) a0 &&& BitVec.ofInt (IntKind.bits .u64) 6148914691236517205))))) &&& BitVec.ofInt (IntKind.bits .u64) 3689348814741910323))))))) &&& BitVec.ofInt (IntKind.bits .u64) 1085102592571150095))) (2 ^ 8)))) + (Int.fdiv (IntKind.wrap .u64 ((IntKind.wrap .u64 (BitVec.toNat (BitVec.ofInt (IntKind.bits .u64) (IntKind.wrap .u64 ((Int.fdiv (IntKind.wrap .u64 ((IntKind.wrap .u64 (BitVec.toNat (BitVec.ofInt (IntKind.bits .u64) (Int.fdiv (IntKind.wrap .u64 ((IntKind.wrap .u64 (BitVec.toNat (BitVec.ofInt (IntKind.bits .u64) (Int.fdiv a0 (2 ^ 1)) &&& BitVec.ofInt (IntKind.bits .u64) 6148914691236517205))) + (IntKind.wrap .u64 (BitVec.toNat (BitVec.ofInt (IntKind.bits .u64) a0 &&& BitVec.ofInt (IntKind.bits .u64) 6148914691236517205))))) (2 ^ 2)) &&& BitVec.ofInt (IntKind.bits .u64) 3689348814741910323))) + (IntKind.wrap .u64 (BitVec.toNat (BitVec.ofInt (IntKind.bits .u64) (IntKind.wrap .u64 ((IntKind.wrap .u64 (BitVec.toNat (BitVec.ofInt (IntKind.bits .u64) (Int.fdiv a0 (2 ^ 1)) &&& BitVec.ofInt (IntKind.bits .u64) 6148914691236517205))) + (IntKind.wrap .u64 (BitVec.toNat (BitVec.ofInt (IntKind.bits .u64) a0 &&& BitVec.ofInt (IntKind.bits .u64) 6148914691236517205))))) &&& BitVec.ofInt (IntKind.bits .u64) 3689348814741910323))))) (2 ^ 4)) + (IntKind.wrap .u64 ((IntKind.wrap .u64 (BitVec.toNat (BitVec.ofInt (IntKind.bits .u64) (Int.fdiv (IntKind.wrap .u64 ((IntKind.wrap .u64 (BitVec.toNat (BitVec.ofInt (IntKind.bits .u64) (Int.fdiv a0 (2 ^ 1)) &&& BitVec.ofInt (IntKind.bits .u64) 6148914691236517205))) + (IntKind.wrap .u64 (BitVec.toNat (BitVec.ofInt (IntKind.bits .u64) a0 &&& BitVec.ofInt (IntKind.bits .u64) 6148914691236517205))))) (2 ^ 2)) &&& BitVec.ofInt (IntKind.bits .u64) 3689348814741910323))) + (IntKind.wrap .u64 (BitVec.toNat (BitVec.ofInt (IntKind.bits .u64) (IntKind.wrap .u64 ((IntKind.wrap .u64 (BitVec.toNat (BitVec.ofInt (IntKind.bits .u64) (Int.fdiv a0 (2 ^ 1)) &&& BitVec.ofInt (IntKind.bits .u64) 6148914691236517205))) + (IntKind.wrap .u64 (BitVec.toNat (BitVec.ofInt (IntKind.bits .u64) a0 &&& BitVec.ofInt (IntKind.bits .u64) 6148914691236517205))))) &&& BitVec.ofInt (IntKind.bits .u64) 3689348814741910323))))))) &&& BitVec.ofInt (IntKind.bits .u64) 1085102592571150095))) + (Int.fdiv (IntKind.wrap .u64 (BitVec.toNat (BitVec.ofInt (IntKind.bits .u64) (IntKind.wrap .u64 ((Int.fdiv (IntKind.wrap .u64 ((IntKind.wrap .u64 (BitVec.toNat (BitVec.ofInt (IntKind.bits .u64) (Int.fdiv (IntKind.wrap .u64 ((IntKind.wrap .u64 (BitVec.toNat (BitVec.ofInt (IntKind.bits .u64) (Int.fdiv a0 (2 ^ 1)) &&& BitVec.ofInt (IntKind.bits .u64) 6148914691236517205))) + (IntKind.wrap .u64 (BitVec.toNat (BitVec.ofInt (IntKind.bits .u64) a0 &&& BitVec.ofInt (IntKind.bits .u64) 6148914691236517205))))) (2 ^ 2)) &&& BitVec.ofInt (IntKind.bits .u64) 3689348814741910323))) + (IntKind.wrap .u64 (BitVec.toNat (BitVec.ofInt (IntKind.bits .u64) (IntKind.wrap .u64 ((IntKind.wrap .u64 (BitVec.toNat (BitVec.ofInt (IntKind.bits .u64) (Int.fdiv a0 (2 ^ 1)) &&& BitVec.ofInt (IntKind.bits .u64) 6148914691236517205))) + (IntKind.wrap .u64 (BitVec.toNat (BitVec.ofInt (IntKind.bits .u64) a0 &&& BitVec.ofInt (IntKind.bits .u64) 6148914691236517205))))) &&& BitVec.ofInt (IntKind.bits .u64) 3689348814741910323))))) (2 ^ 4)) + (IntKind.wrap .u64 ((IntKind.wrap .u64 (BitVec.toNat (BitVec.ofInt (IntKind.bits .u64) (Int.fdiv (IntKind.wrap .u64 ((IntKind.wrap .u64 (BitVec.toNat (BitVec.ofInt (IntKind.bits .u64) (Int.fdiv a0 (2 ^ 1)) &&& BitVec.ofInt (IntKind.bits .u64) 6148914691236517205))) + (IntKind.wrap .u64 (BitVec.toNat (BitVec.ofInt (IntKind.bits .u64) a0 &&& BitVec.ofInt (IntKind.bits .u64) 6148914691236517205))))) (2 ^ 2)) &&& BitVec.ofInt (IntKind.bits .u64) 3689348814741910323))) + (IntKind.wrap .u64 (BitVec.toNat (BitVec.ofInt (IntKind.bits .u64) (IntKind.wrap .u64 ((IntKind.wrap .u64 (BitVec.toNat (BitVec.ofInt (IntKind.bits .u64) (Int.fdiv a0 (2 ^ 1)) &&& BitVec.ofInt (IntKind.bits .u64) 6148914691236517205))) + (IntKind.wrap .u64 (BitVec.toNat (BitVec.ofInt (IntKind.bits .u64) a0 &&& BitVec.ofInt (IntKind.bits .u64) 6148914691236517205))))) &&& BitVec.ofInt (IntKind.bits .u64) 3689348814741910323))))))) &&& BitVec.ofInt (IntKind.bits .u64) 1085102592571150095))) (2 ^ 8)))) (2 ^ 16)))) (2 ^ 32))))) &&& BitVec.ofInt (IntKind.bits .i64) 127))) = y))) := by kernel_rfl
theorem q136_run (a0 : Int) (y : Int) (h : math_bits_OnesCount64_R a0 y) : acall q136_cx okT lpT 60 (.fn 136 [] []) [(V.int .u64 a0)] [] (leafK (.int .i64) y) := by
  refine cast (q136_tree a0 y).symm ?_
  unfold math_bits_OnesCount64_R at h
  refine rqn_intro 40 ?_
  exact req_intro rfl h
theorem math_bits_OnesCount64_ok : FxOk Tryd.prog gsT 136 (.one (.int .u64)) (.int .i64) fun x y => math_bits_OnesCount64_R x y := fx_of (c := q136_cx) (ty_ok rfl) (eq_ok rfl) q136_fns follows_ok (ok := okT) (lp := lpT) (n := 60) lp_ok (enters Tryd.func136 (by kernel_rfl) rfl) (fun y => ⟨_, rfl⟩) fun x y h => q136_run _ y h
noncomputable def q132_cx : Cx := ⟨tyT, [(132, .body Tryd.f132),
  (136, .fx (.one (.int .u64)) (.int .i64) fun x y => math_bits_OnesCount64_R x y)], gsT, eqT⟩
theorem q132_fns : FnsOk Tryd.prog q132_cx := Fns_assoc ⟨body_ent Tryd.func132 (by kernel_rfl) (by kernel_rfl), math_bits_OnesCount64_ok, trivial⟩
def mask_Count_R (a0 : Int) (y : Int) : Prop :=
  (∃ y1 : Int, (math_bits_OnesCount64_R a0 y1) ∧ (y1 = y))
theorem q132_tree (a0 : Int) (y : Int) : acall q132_cx okT lpT 60 (.fn 132 [] []) [(V.int .u64 a0)] [] (leafK (.int .i64) y) =
    (rqn 3 (∃ y1 : Int, (math_bits_OnesCount64_R a0 y1) ∧ (req true (req true (y1 = y))))) := by kernel_rfl
theorem q132_run (a0 : Int) (y : Int) (h : mask_Count_R a0 y) : acall q132_cx okT lpT 60 (.fn 132 [] []) [(V.int .u64 a0)] [] (leafK (.int .i64) y) := by
  refine cast (q132_tree a0 y).symm ?_
  unfold mask_Count_R at h
  refine rqn_intro 3 ?_
  refine ex_both h fun y1 h => ?_
  refine req_intro rfl ?_
  exact req_intro rfl h
theorem mask_Count_ok : FxOk Tryd.prog gsT 132 (.one (.int .u64)) (.int .i64) fun x y => mask_Count_R x y := fx_of (c := q132_cx) (ty_ok rfl) (eq_ok rfl) q132_fns follows_ok (ok := okT) (lp := lpT) (n := 60) lp_ok (enters Tryd.func132 (by kernel_rfl) rfl) (fun y => ⟨_, rfl⟩) fun x y h => q132_run _ y h
noncomputable def q138_cx : Cx := ⟨tyT, [(138, .body Tryd.f138)], gsT, eqT⟩
theorem q138_fns : FnsOk Tryd.prog q138_cx := Fns_assoc ⟨body_ent Tryd.func138 (by kernel_rfl) (by kernel_rfl), trivial⟩
def math_bits_TrailingZeros64_R (a0 : Int) (y : Int) : Prop :=
  (br (a0 == 0) (64 = y) (req ((decide (0 ≤ (Int.fdiv (IntKind.wrap .u64 ((IntKind.wrap .u64 (BitVec.toNat (BitVec.ofInt (IntKind.bits .u64) a0 &&& BitVec.ofInt (IntKind.bits .u64) (IntKind.wrap .u64 (0 - a0))))) * 285870213051353865)) (2 ^ 58)))) && (decide ((Int.fdiv (IntKind.wrap .u64 ((IntKind.wrap .u64 (BitVec.toNat (BitVec.ofInt (IntKind.bits .u64) a0 &&& BitVec.ofInt (IntKind.bits .u64) (IntKind.wrap .u64 (0 - a0))))) * 285870213051353865)) (2 ^ 58)) < 64))) (req (Nat.blt (offN 0 (Int.fdiv (IntKind.wrap .u64 ((IntKind.wrap .u64 (BitVec.toNat (BitVec.ofInt (IntKind.bits .u64) a0 &&& BitVec.ofInt (IntKind.bits .u64) (IntKind.wrap .u64 (0 - a0))))) * 285870213051353865)) (2 ^ 58)) 1) (List.length dbL)) ((IntKind.wrap .i64 (List.getD dbL (offN 0 (Int.fdiv (IntKind.wrap .u64 ((IntKind.wrap .u64 (BitVec.toNat (BitVec.ofInt (IntKind.bits .u64) a0 &&& BitVec.ofInt (IntKind.bits .u64) (IntKind.wrap .u64 (0 - a0))))) * 285870213051353865)) (2 ^ 58)) 1) 0)) = y))))
theorem q138_tree (a0 : Int) (y : Int) : acall q138_cx okT lpT 60 (.fn 138 [] []) [(V.int .u64 a0)] [] (leafK (.int .i64) y) =
    (rqn 3 (br (a0 == 0) (req true (req true (64 = y))) (rqn 6 (req ((decide (0 ≤ (Int.fdiv (IntKind.wrap .u64 ((IntKind.wrap .u64 (BitVec.toNat (BitVec.ofInt (IntKind.bits .u64) a0 &&& BitVec.ofInt (IntKind.bits .u64) (IntKind.wrap .u64 (0 - a0))))) * 285870213051353865)) (2 ^ 58)))) && (decide ((Int.fdiv (IntKind.wrap .u64 ((IntKind.wrap .u64 (BitVec.toNat (BitVec.ofInt (IntKind.bits .u64) a0 &&& BitVec.ofInt (IntKind.bits .u64) (IntKind.wrap .u64 (0 - a0))))) * 285870213051353865)) (2 ^ 58)) < 64))) (req (Nat.blt (offN 0 (Int.fdiv (IntKind.wrap .u64 ((IntKind.wrap .u64 (BitVec.toNat (BitVec.ofInt (IntKind.bits .u64) a0 &&& BitVec.ofInt (IntKind.bits .u64) (IntKind.wrap .u64 (0 - a0))))) * 285870213051353865)) (2 ^ 58)) 1) (List.length dbL)) (rqn 2 (req true ((wI (List.getD dbL (offN 0 (Int.fdiv (IntKind.wrap .u64 ((IntKind.wrap .u64 (BitVec.toNat (BitVec.ofInt (IntKind.bits .u64) a0 &&& BitVec.ofInt (IntKind.bits .u64) (IntKind.wrap .u64 (0 - a0))))) * 285870213051353865)) (2 ^ 58)) 1) 0)) = y)))))))) := by kernel_rfl
theorem q138_run (a0 : Int) (y : Int) (h : math_bits_TrailingZeros64_R a0 y) : acall q138_cx okT lpT 60 (.fn 138 [] []) [(V.int .u64 a0)] [] (leafK (.int .i64) y) := by
  refine cast (q138_tree a0 y).symm ?_
  unfold math_bits_TrailingZeros64_R at h
  refine rqn_intro 3 ?_
  refine br_both h (fun hb h => ?_) (fun hb h => ?_)
  ·refine req_intro rfl ?_
   exact req_intro rfl h
  ·refine rqn_intro 6 ?_
   obtain ⟨q, h⟩ := req_of h
   refine req_intro (band (band_l q) (band_r q)) ?_
   obtain ⟨q, h⟩ := req_of h
   refine req_intro q ?_
   refine rqn_intro 2 ?_
   exact req_intro rfl h
theorem math_bits_TrailingZeros64_ok : FxOk Tryd.prog gsT 138 (.one (.int .u64)) (.int .i64) fun x y => math_bits_TrailingZeros64_R x y := fx_of (c := q138_cx) (ty_ok rfl) (eq_ok rfl) q138_fns follows_ok (ok := okT) (lp := lpT) (n := 60) lp_ok (enters Tryd.func138 (by kernel_rfl) rfl) (fun y => ⟨_, rfl⟩) fun x y h => q138_run _ y h
noncomputable def q128_cx : Cx := ⟨tyT, [(128, .body Tryd.f128),
  (132, .fx (.one (.int .u64)) (.int .i64) fun x y => mask_Count_R x y),
  (133, .body Tryd.f133),
  (137, .body Tryd.f137),
  (138, .fx (.one (.int .u64)) (.int .i64) fun x y => math_bits_TrailingZeros64_R x y)], gsT, eqT⟩
theorem q128_fns : FnsOk Tryd.prog q128_cx := Fns_assoc ⟨body_ent Tryd.func128 (by kernel_rfl) (by kernel_rfl), mask_Count_ok, body_ent Tryd.func133 (by kernel_rfl) (by kernel_rfl), body_ent Tryd.func137 (by kernel_rfl) (by kernel_rfl), math_bits_TrailingZeros64_ok, trivial⟩
noncomputable def q128_0_body : Code := subC [0, 0] (bodyOf Tryd.f137)
abbrev mask_All_l0_Z : Type := List Int × Int
abbrev mask_All_l0_Y : Type := List Int × Int
abbrev q128_0_C : Type := Nat
abbrev q128_0_Q : Type := Unit
noncomputable def q128_0_st (z2 : mask_All_l0_Z) (z2q : q128_0_Q) (z2c : q128_0_C) : S := ⟨[(0, (V.yld 4)), (1, (V.ptr 2 0))], [Blk.dead, (Blk.cells [(V.row 5 1 (List.length (z2.1)) z2c)]), (Blk.cells [(vu (z2.2))]), Blk.dfr, (Blk.loop .ready none ⟨128, [10], (subC [1, 1, 0, 1, 0, 0] (bodyOf Tryd.f128)), (subC [1, 1, 0, 1, 0, 1] (bodyOf Tryd.f128)), [(3, (V.ptr 1 0))], 3⟩), (Blk.row (.int .i64) (z2.1) 3 z2c)], []⟩
def q128_0_Kp (K : Ret → S → Prop) (z2q : q128_0_Q) (y3 : mask_All_l0_Y) : Prop := (∀ y3c : Nat, K (.exit 0) ⟨[], [Blk.dead, (Blk.cells [(V.row 5 1 (List.length (y3.1)) y3c)]), (Blk.cells [(vu (y3.2))]), Blk.dfr, (Blk.loop .ready none ⟨128, [10], (subC [1, 1, 0, 1, 0, 0] (bodyOf Tryd.f128)), (subC [1, 1, 0, 1, 0, 1] (bodyOf Tryd.f128)), [(3, (V.ptr 1 0))], 3⟩), (Blk.row (.int .i64) (y3.1) 3 y3c)], []⟩)
def q128_0_K (K : Ret → S → Prop) (z2 : mask_All_l0_Z) (z2q : q128_0_Q) (y3 : mask_All_l0_Y) : Prop := q128_0_Kp K z2q y3
def mask_All_l0 : Nat → mask_All_l0_Z → mask_All_l0_Y → Prop
  | 0, _, _ => False
  | k + 1, (z2x0, z2x1), y3_ => (br (z2x1 != 0) (∃ y4 : Int, (math_bits_TrailingZeros64_R z2x1 y4) ∧ (req (Nat.ble ((List.length (z2x0 ++ [y4])) * 9) 140737488355328) (mask_All_l0 k ((z2x0 ++ [y4]), (IntKind.wrap .u64 (BitVec.toNat (BitVec.ofInt (IntKind.bits .u64) z2x1 &&& BitVec.ofInt (IntKind.bits .u64) (IntKind.wrap .u64 (z2x1 - 1)))))) y3_))) ((z2x0, z2x1) = y3_))
def mask_All_l0_L (z : mask_All_l0_Z) (y : mask_All_l0_Y) : Prop := ∃ k, mask_All_l0 k z y
noncomputable def q128_0_lp : Lp := .auto none q128_0_body (loopG 5 q128_0_st (fun z y => ∃ k, mask_All_l0 k z y) q128_0_K)
noncomputable def q128_lp : Nat → FuncId → Nat → Nat → Lp := lpTab [(137, 0, 5, 1, q128_0_lp)]
theorem q128_0_round (n : Nat) (z2x0 : List Int) (z2x1 : Int) (z2k0 : Nat) (K : Ret → S → Prop) (next : S → Prop) : acode q128_cx 137 (acall q128_cx okT q128_lp (n + 1)) (okT 137) (q128_lp (n + 1) 137) none q128_0_body (iterK (wkK 5 K) next) (q128_0_st (z2x0, z2x1) () z2k0) =
    (rqn 2 (br (z2x1 != 0) (rqn 3 (∃ y4 : Int, (math_bits_TrailingZeros64_R z2x1 y4) ∧ (rqn 4 (req (((((true && true) && true) && (Nat.beq (List.length z2x0) (List.length z2x0))) && (Nat.beq z2k0 z2k0)) && (Nat.ble ((List.length (z2x0 ++ [y4])) * 9) 140737488355328)) (∀ c5 : Nat, Nat.ble (List.length (z2x0 ++ [y4])) c5 = true → (rqn 5 (next ⟨[(0, (V.yld 4)), (1, (V.ptr 2 0)), (4, (vb (z2x1 != 0))), (13, (vb false))], [Blk.dead, (Blk.cells [(V.row 7 1 (List.length (z2x0 ++ [y4])) c5)]), (Blk.cells [(vu (IntKind.wrap .u64 (BitVec.toNat (BitVec.ofInt (IntKind.bits .u64) z2x1 &&& BitVec.ofInt (IntKind.bits .u64) (IntKind.wrap .u64 (z2x1 - 1))))))]), Blk.dfr, (Blk.loop .ready none ⟨128, [10], (subC [1, 1, 0, 1, 0, 0] (bodyOf Tryd.f128)), (subC [1, 1, 0, 1, 0, 1] (bodyOf Tryd.f128)), [(3, (V.ptr 1 0))], 3⟩), Blk.dead, (Blk.cells [(vi y4)]), (Blk.row (.int .i64) (z2x0 ++ [y4]) 3 c5)], []⟩))))))) (wkK 5 K (.exit 0) ⟨[(0, (V.yld 4)), (1, (V.ptr 2 0)), (4, (vb (z2x1 != 0)))], [Blk.dead, (Blk.cells [(V.row 5 1 (List.length z2x0) z2k0)]), (Blk.cells [(vu z2x1)]), Blk.dfr, (Blk.loop .ready none ⟨128, [10], (subC [1, 1, 0, 1, 0, 0] (bodyOf Tryd.f128)), (subC [1, 1, 0, 1, 0, 1] (bodyOf Tryd.f128)), [(3, (V.ptr 1 0))], 3⟩), (Blk.row (.int .i64) z2x0 3 z2k0)], []⟩))) := by kernel_rfl
theorem q128_0_step (n k : Nat) (z2x0 : List Int) (z2x1 : Int) (z2k0 : Nat) (y3_ : mask_All_l0_Y) (K : Ret → S → Prop) (h : mask_All_l0 (k + 1) (z2x0, z2x1) y3_) (hK : q128_0_Kp K () y3_) (next : S → Prop) (hnext : ∀ z' s', mask_All_l0 k z' y3_ → q128_0_K K z' () y3_ → (∃ cc', wk 5 s' (q128_0_st z' () cc')) → next s') : acode q128_cx 137 (acall q128_cx okT q128_lp (n + 1)) (okT 137) (q128_lp (n + 1) 137) none q128_0_body (iterK (wkK 5 K) next) (q128_0_st (z2x0, z2x1) () z2k0) := by
  refine cast (q128_0_round n z2x0 z2x1 z2k0 K next).symm ?_
  simp only [mask_All_l0] at h
  refine rqn_intro 2 ?_
  refine br_both h (fun hb h => ?_) (fun hb h => ?_)
  ·refine rqn_intro 3 ?_
   refine ex_both h fun y4 h => ?_
   refine rqn_intro 4 ?_
   obtain ⟨q, h⟩ := req_of h
   refine req_intro (band (band (band (band (band rfl rfl) rfl) (Nat.beq_refl _)) (Nat.beq_refl _)) q) ?_
   intro c5 hc5
   refine rqn_intro 5 ?_
   exact hnext ((z2x0 ++ [y4]), (IntKind.wrap .u64 (BitVec.toNat (BitVec.ofInt (IntKind.bits .u64) z2x1 &&& BitVec.ofInt (IntKind.bits .u64) (IntKind.wrap .u64 (z2x1 - 1)))))) _ h hK ⟨c5, ⟨_, ⟨[(0, (V.yld 4)), (1, (V.ptr 2 0))], [Blk.dead, (Blk.cells [(V.row 5 1 (List.length (z2x0 ++ [y4])) c5)]), (Blk.cells [(vu (IntKind.wrap .u64 (BitVec.toNat (BitVec.ofInt (IntKind.bits .u64) z2x1 &&& BitVec.ofInt (IntKind.bits .u64) (IntKind.wrap .u64 (z2x1 - 1))))))]), Blk.dfr, (Blk.loop .ready none ⟨128, [10], (subC [1, 1, 0, 1, 0, 0] (bodyOf Tryd.f128)), (subC [1, 1, 0, 1, 0, 1] (bodyOf Tryd.f128)), [(3, (V.ptr 1 0))], 3⟩), (Blk.row (.int .i64) (z2x0 ++ [y4]) 3 c5)], []⟩, ⟨[], rfl, rfl⟩, Or.inr ⟨[0, 1, 2, 3, 4, 7], rfl, rfl, rfl, rfl, rfl, ⟨rfl, rfl, trivial⟩, ⟨Or.inl rfl, Or.inr rfl, Or.inr rfl, Or.inr rfl, Or.inr rfl, Or.inr rfl, trivial⟩, rfl, rfl⟩, Or.inr ⟨⟨Or.inl rfl, Or.inl rfl, trivial⟩, ⟨Or.inl rfl, Or.inl rfl, Or.inl rfl, Or.inl rfl, Or.inl rfl, Or.inl rfl, trivial⟩, rfl, rfl, rfl⟩⟩⟩
  ·subst h
   refine ⟨_, ?_, hK z2k0⟩
   exact wk_of (Or.inr ⟨trivial, ⟨Or.inl rfl, Or.inl rfl, Or.inl rfl, Or.inl rfl, Or.inl rfl, Or.inl rfl, trivial⟩, rfl, rfl, rfl⟩)
theorem q128_0_ok (n : Nat) : Owed q128_cx okT 137 q128_lp (n + 1) q128_0_lp := loop_owed (fun z y h => h) fun k zz qq cc yy K h hK next hnext => q128_0_step n k zz.1 zz.2 cc yy K h hK next hnext
theorem q128_lpok : LpOk q128_cx okT q128_lp := LpOk_tab ⟨q128_0_ok, trivial⟩
def mask_All_R (a0 : Int) (y : List Int) : Prop :=
  (∃ y1 : Int, (mask_Count_R a0 y1) ∧ (req (((decide (0 ≤ y1)) && (Nat.ble (8 * (Int.toNat y1)) 281474976710656)) && (Nat.ble (Int.toNat y1) 9223372036854775807)) (∃ y7 : mask_All_l0_Y, mask_All_l0_L ([], a0) y7 ∧ ((y7.1) = y))))
theorem q128_tree (a0 : Int) (y : List Int) : acall q128_cx okT q128_lp 60 (.fn 128 [] []) [(V.int .u64 a0)] [] (leafK (.nw (.int .i64) 3) y) =
    (rqn 3 (∃ y1 : Int, (mask_Count_R a0 y1) ∧ (req (((true && (decide (0 ≤ y1))) && (Nat.ble (8 * (Int.toNat y1)) 281474976710656)) && (Nat.ble (Int.toNat y1) 9223372036854775807)) (rqn 4 (((none : Option Nat) = (none : Option Nat)) ∧ (q128_0_body = q128_0_body) ∧ ∃ z6 : mask_All_l0_Z, ∃ z6q : q128_0_Q, ∃ y7 : mask_All_l0_Y, (5 = 5) ∧ (∃ zc : q128_0_C, wk 5 ⟨[(0, (V.yld 4)), (1, (V.ptr 2 0))], [(Blk.row (.int .i64) [] 3 (Int.toNat y1)), (Blk.cells [(V.row 0 1 0 (Int.toNat y1))]), (Blk.cells [(vu a0)]), Blk.dfr, (Blk.loop .ready none ⟨128, [10], (subC [1, 1, 0, 1, 0, 0] (bodyOf Tryd.f128)), (subC [1, 1, 0, 1, 0, 1] (bodyOf Tryd.f128)), [(0, (vu a0)), (2, (V.old (.slice none 0 0))), (3, (V.ptr 1 0)), (9, (V.fn 137 [] [(V.ptr 2 0)]))], 3⟩)], []⟩ (q128_0_st z6 z6q zc)) ∧ (∃ k, mask_All_l0 k z6 y7) ∧ (∀ y7c : Nat, (rqn 2 (req (true && ((Nat.beq (List.length (y7.1)) (List.length (y7.1))) && (Nat.beq y7c y7c))) ((y7.1) = y))))))))) := by kernel_rfl
theorem q128_run (a0 : Int) (y : List Int) (h : mask_All_R a0 y) : acall q128_cx okT q128_lp 60 (.fn 128 [] []) [(V.int .u64 a0)] [] (leafK (.nw (.int .i64) 3) y) := by
  refine cast (q128_tree a0 y).symm ?_
  unfold mask_All_R at h
  refine rqn_intro 3 ?_
  refine ex_both h fun y1 h => ?_
  obtain ⟨q, h⟩ := req_of h
  refine req_intro (band (band (band rfl (band_l (band_l q))) (band_r (band_l q))) (band_r q)) ?_
  refine rqn_intro 4 ?_
  obtain ⟨y7, ry7, h⟩ := h
  refine ⟨rfl, rfl, ([], a0), (), y7, rfl, ⟨(Int.toNat y1), ⟨_, ⟨[(0, (V.yld 4)), (1, (V.ptr 2 0))], [Blk.dead, (Blk.cells [(V.row 5 1 0 (Int.toNat y1))]), (Blk.cells [(vu a0)]), Blk.dfr, (Blk.loop .ready none ⟨128, [10], (subC [1, 1, 0, 1, 0, 0] (bodyOf Tryd.f128)), (subC [1, 1, 0, 1, 0, 1] (bodyOf Tryd.f128)), [(0, (vu a0)), (2, (V.old (.slice none 0 0))), (3, (V.ptr 1 0)), (9, (V.fn 137 [] [(V.ptr 2 0)]))], 3⟩), (Blk.row (.int .i64) [] 3 (Int.toNat y1))], []⟩, ⟨[], rfl, rfl⟩, Or.inr ⟨[0, 1, 2, 3, 4, 0], rfl, rfl, rfl, rfl, rfl, ⟨rfl, rfl, trivial⟩, ⟨Or.inl rfl, Or.inr rfl, Or.inr rfl, Or.inr rfl, Or.inr rfl, Or.inr rfl, trivial⟩, rfl, rfl⟩, Or.inr ⟨⟨Or.inl rfl, Or.inl rfl, trivial⟩, ⟨Or.inl rfl, Or.inr (Or.inr (Or.inr ⟨Or.inl rfl, trivial⟩)), Or.inl rfl, Or.inl rfl, Or.inr (Or.inr (Or.inr ⟨rfl, rfl, rfl, rfl, rfl, rfl, rfl, ⟨Or.inl rfl, trivial⟩⟩)), Or.inl rfl, trivial⟩, rfl, rfl, rfl⟩⟩⟩, ry7, ?_⟩
  intro y7c
  refine rqn_intro 2 ?_
  exact req_intro (band rfl (band (Nat.beq_refl _) (Nat.beq_refl _))) h
theorem mask_All_ok : FxOk Tryd.prog gsT 128 (.one (.int .u64)) (.nw (.int .i64) 3) fun x y => mask_All_R x y := fx_of (c := q128_cx) (ty_ok rfl) (eq_ok rfl) q128_fns follows_ok (ok := okT) (lp := q128_lp) (n := 60) q128_lpok (enters Tryd.func128 (by kernel_rfl) rfl) (fun y => ⟨_, rfl⟩) fun x y h => q128_run _ y h
noncomputable def q40_cx : Cx := ⟨tyT, [(40, .body Tryd.f40)], gsT, eqT⟩
theorem q40_fns : FnsOk Tryd.prog q40_cx := Fns_assoc ⟨body_ent Tryd.func40 (by kernel_rfl) (by kernel_rfl), trivial⟩
def next_of_R (a0 : Int) (y : Int) : Prop :=
  ((IntKind.wrap .i64 (Int.tdiv (if 253402300799 < (if 0 > a0 then 0 else a0) then 253402300799 else (if 0 > a0 then 0 else a0)) 86400)) = y)
theorem q40_tree (a0 : Int) (y : Int) : acall q40_cx okT lpT 60 (.fn 40 [] []) [(V.int .i64 a0)] [] (leafK (.int .i64) y) =
    (rqn 6 (req true ((wI (Int.tdiv (if 253402300799 < (if 0 > a0 then 0 else a0) then 253402300799 else (if 0 > a0 then 0 else a0)) 86400)) = y))) := by kernel_rfl
theorem q40_run (a0 : Int) (y : Int) (h : next_of_R a0 y) : acall q40_cx okT lpT 60 (.fn 40 [] []) [(V.int .i64 a0)] [] (leafK (.int .i64) y) := by
  refine cast (q40_tree a0 y).symm ?_
  unfold next_of_R at h
  refine rqn_intro 6 ?_
  exact req_intro rfl h
theorem next_of_ok : FxOk Tryd.prog gsT 40 (.one (.int .i64)) (.int .i64) fun x y => next_of_R x y := fx_of (c := q40_cx) (ty_ok rfl) (eq_ok rfl) q40_fns follows_ok (ok := okT) (lp := lpT) (n := 60) lp_ok (enters Tryd.func40 (by kernel_rfl) rfl) (fun y => ⟨_, rfl⟩) fun x y h => q40_run _ y h
noncomputable def q17_cx : Cx := ⟨tyT, [(17, .body Tryd.f17),
  (23, .fx (.one (.agg (.cons (.int .u64) (.cons (.int .u64) (.cons (.int .u64) (.cons (.int .u64) (.one (.int .u64)))))))) (.int .i64) fun x y => cron_Check_R (x.1) (x.2.1) (x.2.2.1) (x.2.2.2.1) (x.2.2.2.2) y),
  (39, .body Tryd.f39),
  (40, .fx (.one (.int .i64)) (.int .i64) fun x y => next_of_R x y),
  (41, .body Tryd.f41),
  (52, .fx (.cons (.agg (.cons (.int .u64) (.cons (.int .u64) (.cons (.int .u64) (.cons (.int .u64) (.one (.int .u64))))))) (.one (.agg (.cons (.int .i64) (.cons (.int .i64) (.one (.int .i64))))))) .bool fun x y => cron_Day_R (x.1.1) (x.1.2.1) (x.1.2.2.1) (x.1.2.2.2.1) (x.1.2.2.2.2) (x.2.1) (x.2.2.1) (x.2.2.2) y),
  (76, .body Tryd.f76),
  (77, .body Tryd.f77),
  (84, .fx (.one (.int .i64)) (.tup (.cons (.agg (.cons (.int .i64) (.cons (.int .i64) (.one (.int .i64))))) (.one (.int .i64)))) fun x y => days_At_R x y),
  (105, .body Tryd.f105),
  (106, .body Tryd.f106),
  (107, .body Tryd.f107),
  (127, .body Tryd.f127),
  (128, .fx (.one (.int .u64)) (.nw (.int .i64) 3) fun x y => mask_All_R x y)], gsT, eqT⟩
theorem q17_fns : FnsOk Tryd.prog q17_cx := Fns_assoc ⟨body_ent Tryd.func17 (by kernel_rfl) (by kernel_rfl), cron_Check_ok, body_ent Tryd.func39 (by kernel_rfl) (by kernel_rfl), next_of_ok, body_ent Tryd.func41 (by kernel_rfl) (by kernel_rfl), cron_Day_ok, body_ent Tryd.func76 (by kernel_rfl) (by kernel_rfl), body_ent Tryd.func77 (by kernel_rfl) (by kernel_rfl), days_At_ok, body_ent Tryd.func105 (by kernel_rfl) (by kernel_rfl), body_ent Tryd.func106 (by kernel_rfl) (by kernel_rfl), body_ent Tryd.func107 (by kernel_rfl) (by kernel_rfl), body_ent Tryd.func127 (by kernel_rfl) (by kernel_rfl), mask_All_ok, trivial⟩
noncomputable def q17_0_body : Code := subC [1, 1, 0, 0] (bodyOf Tryd.f127)
abbrev next_Next_l0_Z : Type := List Int × List Int × Int × Int × Int × Int × Int × Int × Int × Int × Int × Int
abbrev next_Next_l0_Y : Type := (Int) ⊕ (Unit)
abbrev q17_0_C : Type := Unit
abbrev q17_0_Q : Type := Nat × Nat
noncomputable def q17_0_st (z13 : next_Next_l0_Z) (z13q : q17_0_Q) (z13c : q17_0_C) : S := ⟨[(0, (V.yld 21)), (2, (V.ptr 20 0)), (4, (V.row 22 1 (List.length (z13.2.1)) (z13q.2))), (9, (vi (z13.2.2.2.2.2.2.2.2.2.2.1))), (10, (vi (z13.2.2.2.2.2.2.2.2.2.2.2)))], [(Blk.cells [(vu (z13.2.2.1)), (vu (z13.2.2.2.1)), (vu (z13.2.2.2.2.1)), (vu (z13.2.2.2.2.2.1)), (vu (z13.2.2.2.2.2.2.1))]), (Blk.cells [(vi (z13.2.2.2.2.2.2.2.1))]), (Blk.cells [(vu (z13.2.2.1)), (vu (z13.2.2.2.1)), (vu (z13.2.2.2.2.1)), (vu (z13.2.2.2.2.2.1)), (vu (z13.2.2.2.2.2.2.1))]), (Blk.cells [(V.fn 41 [] [(V.ptr 1 0)])]), (Blk.cells [(vi 0)]), (Blk.cells [(vb false)]), (Blk.cells [(vu (z13.2.2.1)), (vu (z13.2.2.2.1)), (vu (z13.2.2.2.2.1)), (vu (z13.2.2.2.2.2.1)), (vu (z13.2.2.2.2.2.2.1))]), (Blk.cells [(vu (z13.2.2.1)), (vu (z13.2.2.2.1)), (vu (z13.2.2.2.2.1)), (vu (z13.2.2.2.2.2.1)), (vu (z13.2.2.2.2.2.2.1))]), (Blk.cells [(vi (z13.2.2.2.2.2.2.2.2.1))]), (Blk.cells [(vb false)]), Blk.dfr, (Blk.loop .ready none ⟨39, [37], (subC [1, 0, 1, 1, 1, 0, 1, 0, 0, 1, 1, 0, 0, 1, 1, 1, 1, 1, 0, 0] (bodyOf Tryd.f39)), (subC [1, 0, 1, 1, 1, 0, 1, 0, 0, 1, 1, 0, 0, 1, 1, 1, 1, 1, 0, 1] (bodyOf Tryd.f39)), [(7, (V.ptr 3 0)), (8, (V.ptr 4 0)), (9, (V.ptr 5 0))], 10⟩), (Blk.cells [(V.yld 11)]), (Blk.cells [(vu (z13.2.2.2.1))]), (Blk.cells [(vb false)]), Blk.dfr, (Blk.loop .busy none ⟨106, [11], (subC [1, 1, 0, 0] (bodyOf Tryd.f106)), (subC [1, 1, 0, 1] (bodyOf Tryd.f106)), [(1, (V.ptr 7 0)), (2, (V.ptr 9 0)), (3, (V.ptr 8 0)), (4, (V.ptr 12 0))], 15⟩), (Blk.row (.int .i64) (z13.1) 3 (z13q.1)), (Blk.cells [(vi (z13.2.2.2.2.2.2.2.2.2.1))]), (Blk.cells [(vu (z13.2.2.1))]), (Blk.cells [(vb false)]), (Blk.loop .ready none ⟨106, [16], (subC [1, 1, 0, 1, 0, 1, 0, 0] (bodyOf Tryd.f106)), (subC [1, 1, 0, 1, 0, 1, 0, 1] (bodyOf Tryd.f106)), [(3, (V.ptr 8 0)), (4, (V.ptr 12 0)), (5, (V.ptr 18 0))], 15⟩), (Blk.row (.int .i64) (z13.2.1) 3 (z13q.2))], []⟩
def q17_0_Kp (K : Ret → S → Prop) (z13x0 : List Int) (z13x2 : Int) (z13x3 : Int) (z13x4 : Int) (z13x5 : Int) (z13x6 : Int) (z13x7 : Int) (z13x8 : Int) (z13x9 : Int) (z13q : q17_0_Q) (y14 : next_Next_l0_Y) : Prop := sume (fun y14 => K .ret ⟨[], [(Blk.cells [(vu z13x2), (vu z13x3), (vu z13x4), (vu z13x5), (vu z13x6)]), (Blk.cells [(vi z13x7)]), (Blk.cells [(vu z13x2), (vu z13x3), (vu z13x4), (vu z13x5), (vu z13x6)]), (Blk.cells [(V.fn 41 [] [(V.ptr 1 0)])]), (Blk.cells [(vi y14)]), (Blk.cells [(vb true)]), (Blk.cells [(vu z13x2), (vu z13x3), (vu z13x4), (vu z13x5), (vu z13x6)]), (Blk.cells [(vu z13x2), (vu z13x3), (vu z13x4), (vu z13x5), (vu z13x6)]), (Blk.cells [(vi z13x8)]), (Blk.cells [(vb false)]), Blk.dfr, (Blk.loop .done (some (.exit 0)) ⟨39, [37], (subC [1, 0, 1, 1, 1, 0, 1, 0, 0, 1, 1, 0, 0, 1, 1, 1, 1, 1, 0, 0] (bodyOf Tryd.f39)), (subC [1, 0, 1, 1, 1, 0, 1, 0, 0, 1, 1, 0, 0, 1, 1, 1, 1, 1, 0, 1] (bodyOf Tryd.f39)), [(7, (V.ptr 3 0)), (8, (V.ptr 4 0)), (9, (V.ptr 5 0))], 10⟩), (Blk.cells [(V.yld 11)]), (Blk.cells [(vu z13x3)]), (Blk.cells [(vb false)]), Blk.dfr, (Blk.loop .busy none ⟨106, [11], (subC [1, 1, 0, 0] (bodyOf Tryd.f106)), (subC [1, 1, 0, 1] (bodyOf Tryd.f106)), [(1, (V.ptr 7 0)), (2, (V.ptr 9 0)), (3, (V.ptr 8 0)), (4, (V.ptr 12 0))], 15⟩), (Blk.row (.int .i64) z13x0 3 (z13q.1)), (Blk.cells [(vi z13x9)]), (Blk.cells [(vu z13x2)]), (Blk.cells [(vb false)]), (Blk.loop .done (some .ret) ⟨106, [16], (subC [1, 1, 0, 1, 0, 1, 0, 0] (bodyOf Tryd.f106)), (subC [1, 1, 0, 1, 0, 1, 0, 1] (bodyOf Tryd.f106)), [(3, (V.ptr 8 0)), (4, (V.ptr 12 0)), (5, (V.ptr 18 0))], 15⟩), Blk.dead], []⟩) (fun y14 => K (.exit 0) ⟨[], [(Blk.cells [(vu z13x2), (vu z13x3), (vu z13x4), (vu z13x5), (vu z13x6)]), (Blk.cells [(vi z13x7)]), (Blk.cells [(vu z13x2), (vu z13x3), (vu z13x4), (vu z13x5), (vu z13x6)]), (Blk.cells [(V.fn 41 [] [(V.ptr 1 0)])]), (Blk.cells [(vi 0)]), (Blk.cells [(vb false)]), (Blk.cells [(vu z13x2), (vu z13x3), (vu z13x4), (vu z13x5), (vu z13x6)]), (Blk.cells [(vu z13x2), (vu z13x3), (vu z13x4), (vu z13x5), (vu z13x6)]), (Blk.cells [(vi z13x8)]), (Blk.cells [(vb false)]), Blk.dfr, (Blk.loop .ready none ⟨39, [37], (subC [1, 0, 1, 1, 1, 0, 1, 0, 0, 1, 1, 0, 0, 1, 1, 1, 1, 1, 0, 0] (bodyOf Tryd.f39)), (subC [1, 0, 1, 1, 1, 0, 1, 0, 0, 1, 1, 0, 0, 1, 1, 1, 1, 1, 0, 1] (bodyOf Tryd.f39)), [(7, (V.ptr 3 0)), (8, (V.ptr 4 0)), (9, (V.ptr 5 0))], 10⟩), (Blk.cells [(V.yld 11)]), (Blk.cells [(vu z13x3)]), (Blk.cells [(vb false)]), Blk.dfr, (Blk.loop .busy none ⟨106, [11], (subC [1, 1, 0, 0] (bodyOf Tryd.f106)), (subC [1, 1, 0, 1] (bodyOf Tryd.f106)), [(1, (V.ptr 7 0)), (2, (V.ptr 9 0)), (3, (V.ptr 8 0)), (4, (V.ptr 12 0))], 15⟩), (Blk.row (.int .i64) z13x0 3 (z13q.1)), (Blk.cells [(vi z13x9)]), (Blk.cells [(vu z13x2)]), (Blk.cells [(vb false)]), (Blk.loop .ready none ⟨106, [16], (subC [1, 1, 0, 1, 0, 1, 0, 0] (bodyOf Tryd.f106)), (subC [1, 1, 0, 1, 0, 1, 0, 1] (bodyOf Tryd.f106)), [(3, (V.ptr 8 0)), (4, (V.ptr 12 0)), (5, (V.ptr 18 0))], 15⟩), Blk.dead], []⟩) y14
def q17_0_K (K : Ret → S → Prop) (z13 : next_Next_l0_Z) (z13q : q17_0_Q) (y14 : next_Next_l0_Y) : Prop := q17_0_Kp K (z13.1) (z13.2.2.1) (z13.2.2.2.1) (z13.2.2.2.2.1) (z13.2.2.2.2.2.1) (z13.2.2.2.2.2.2.1) (z13.2.2.2.2.2.2.2.1) (z13.2.2.2.2.2.2.2.2.1) (z13.2.2.2.2.2.2.2.2.2.1) z13q y14
def next_Next_l0 : Nat → next_Next_l0_Z → next_Next_l0_Y → Prop
  | 0, _, _ => False
  | k + 1, (z13x0, z13x1, z13x2, z13x3, z13x4, z13x5, z13x6, z13x7, z13x8, z13x9, z13x10, z13x11), y14_ => (br (decide (z13x11 < z13x10)) (req ((decide (0 ≤ z13x11)) && (decide (z13x11 < (((List.length z13x1) : Nat) : Int)))) (req (Nat.blt (Int.toNat z13x11) (List.length z13x1)) (br (decide ((IntKind.wrap .i64 ((IntKind.wrap .i64 ((IntKind.wrap .i64 (z13x8 * 86400)) + (IntKind.wrap .i64 (z13x9 * 3600)))) + (IntKind.wrap .i64 ((List.getD z13x1 (Int.toNat z13x11) 0) * 60)))) > z13x7)) ((Sum.inl (IntKind.wrap .i64 ((IntKind.wrap .i64 ((IntKind.wrap .i64 (z13x8 * 86400)) + (IntKind.wrap .i64 (z13x9 * 3600)))) + (IntKind.wrap .i64 ((List.getD z13x1 (Int.toNat z13x11) 0) * 60))))) = y14_) (next_Next_l0 k (z13x0, z13x1, z13x2, z13x3, z13x4, z13x5, z13x6, z13x7, z13x8, z13x9, z13x10, (IntKind.wrap .i64 (z13x11 + 1))) y14_)))) ((Sum.inr ()) = y14_))
def next_Next_l0_L (z : next_Next_l0_Z) (y : next_Next_l0_Y) : Prop := ∃ k, next_Next_l0 k z y
noncomputable def q17_0_lp : Lp := .auto none q17_0_body (loopG 23 q17_0_st (fun z y => ∃ k, next_Next_l0 k z y) q17_0_K)
noncomputable def q17_1_body : Code := subC [1, 1, 0, 0] (bodyOf Tryd.f127)
abbrev next_Next_l1_Z : Type := List Int × Int × Int × Int × Int × Int × Int × Int × Int × Int
abbrev next_Next_l1_Y : Type := (Int) ⊕ (Unit)
abbrev q17_1_C : Type := Unit
abbrev q17_1_Q : Type := Nat
noncomputable def q17_1_st (z9 : next_Next_l1_Z) (z9q : q17_1_Q) (z9c : q17_1_C) : S := ⟨[(0, (V.yld 16)), (2, (V.ptr 14 0)), (4, (V.row 17 1 (List.length (z9.1)) z9q)), (9, (vi (z9.2.2.2.2.2.2.2.2.1))), (10, (vi (z9.2.2.2.2.2.2.2.2.2)))], [(Blk.cells [(vu (z9.2.1)), (vu (z9.2.2.1)), (vu (z9.2.2.2.1)), (vu (z9.2.2.2.2.1)), (vu (z9.2.2.2.2.2.1))]), (Blk.cells [(vi (z9.2.2.2.2.2.2.1))]), (Blk.cells [(vu (z9.2.1)), (vu (z9.2.2.1)), (vu (z9.2.2.2.1)), (vu (z9.2.2.2.2.1)), (vu (z9.2.2.2.2.2.1))]), (Blk.cells [(V.fn 41 [] [(V.ptr 1 0)])]), (Blk.cells [(vi 0)]), (Blk.cells [(vb false)]), (Blk.cells [(vu (z9.2.1)), (vu (z9.2.2.1)), (vu (z9.2.2.2.1)), (vu (z9.2.2.2.2.1)), (vu (z9.2.2.2.2.2.1))]), (Blk.cells [(vu (z9.2.1)), (vu (z9.2.2.1)), (vu (z9.2.2.2.1)), (vu (z9.2.2.2.2.1)), (vu (z9.2.2.2.2.2.1))]), (Blk.cells [(vi (z9.2.2.2.2.2.2.2.1))]), (Blk.cells [(vb false)]), Blk.dfr, (Blk.loop .ready none ⟨39, [37], (subC [1, 0, 1, 1, 1, 0, 1, 0, 0, 1, 1, 0, 0, 1, 1, 1, 1, 1, 0, 0] (bodyOf Tryd.f39)), (subC [1, 0, 1, 1, 1, 0, 1, 0, 0, 1, 1, 0, 0, 1, 1, 1, 1, 1, 0, 1] (bodyOf Tryd.f39)), [(7, (V.ptr 3 0)), (8, (V.ptr 4 0)), (9, (V.ptr 5 0))], 10⟩), (Blk.cells [(V.yld 11)]), (Blk.cells [(vu (z9.2.2.1))]), (Blk.cells [(vb false)]), Blk.dfr, (Blk.loop .ready none ⟨106, [11], (subC [1, 1, 0, 0] (bodyOf Tryd.f106)), (subC [1, 1, 0, 1] (bodyOf Tryd.f106)), [(1, (V.ptr 7 0)), (2, (V.ptr 9 0)), (3, (V.ptr 8 0)), (4, (V.ptr 12 0))], 15⟩), (Blk.row (.int .i64) (z9.1) 3 z9q)], []⟩
def q17_1_Kp (K : Ret → S → Prop) (z9x1 : Int) (z9x2 : Int) (z9x3 : Int) (z9x4 : Int) (z9x5 : Int) (z9x6 : Int) (z9x7 : Int) (z9q : q17_1_Q) (y10 : next_Next_l1_Y) : Prop := sume (fun y10 => K .ret ⟨[], [(Blk.cells [(vu z9x1), (vu z9x2), (vu z9x3), (vu z9x4), (vu z9x5)]), (Blk.cells [(vi z9x6)]), (Blk.cells [(vu z9x1), (vu z9x2), (vu z9x3), (vu z9x4), (vu z9x5)]), (Blk.cells [(V.fn 41 [] [(V.ptr 1 0)])]), (Blk.cells [(vi y10)]), (Blk.cells [(vb true)]), (Blk.cells [(vu z9x1), (vu z9x2), (vu z9x3), (vu z9x4), (vu z9x5)]), (Blk.cells [(vu z9x1), (vu z9x2), (vu z9x3), (vu z9x4), (vu z9x5)]), (Blk.cells [(vi z9x7)]), (Blk.cells [(vb false)]), Blk.dfr, (Blk.loop .done (some (.exit 0)) ⟨39, [37], (subC [1, 0, 1, 1, 1, 0, 1, 0, 0, 1, 1, 0, 0, 1, 1, 1, 1, 1, 0, 0] (bodyOf Tryd.f39)), (subC [1, 0, 1, 1, 1, 0, 1, 0, 0, 1, 1, 0, 0, 1, 1, 1, 1, 1, 0, 1] (bodyOf Tryd.f39)), [(7, (V.ptr 3 0)), (8, (V.ptr 4 0)), (9, (V.ptr 5 0))], 10⟩), (Blk.cells [(V.yld 11)]), (Blk.cells [(vu z9x2)]), (Blk.cells [(vb false)]), Blk.dfr, (Blk.loop .done (some .ret) ⟨106, [11], (subC [1, 1, 0, 0] (bodyOf Tryd.f106)), (subC [1, 1, 0, 1] (bodyOf Tryd.f106)), [(1, (V.ptr 7 0)), (2, (V.ptr 9 0)), (3, (V.ptr 8 0)), (4, (V.ptr 12 0))], 15⟩), Blk.dead], []⟩) (fun y10 => K (.exit 0) ⟨[], [(Blk.cells [(vu z9x1), (vu z9x2), (vu z9x3), (vu z9x4), (vu z9x5)]), (Blk.cells [(vi z9x6)]), (Blk.cells [(vu z9x1), (vu z9x2), (vu z9x3), (vu z9x4), (vu z9x5)]), (Blk.cells [(V.fn 41 [] [(V.ptr 1 0)])]), (Blk.cells [(vi 0)]), (Blk.cells [(vb false)]), (Blk.cells [(vu z9x1), (vu z9x2), (vu z9x3), (vu z9x4), (vu z9x5)]), (Blk.cells [(vu z9x1), (vu z9x2), (vu z9x3), (vu z9x4), (vu z9x5)]), (Blk.cells [(vi z9x7)]), (Blk.cells [(vb false)]), Blk.dfr, (Blk.loop .ready none ⟨39, [37], (subC [1, 0, 1, 1, 1, 0, 1, 0, 0, 1, 1, 0, 0, 1, 1, 1, 1, 1, 0, 0] (bodyOf Tryd.f39)), (subC [1, 0, 1, 1, 1, 0, 1, 0, 0, 1, 1, 0, 0, 1, 1, 1, 1, 1, 0, 1] (bodyOf Tryd.f39)), [(7, (V.ptr 3 0)), (8, (V.ptr 4 0)), (9, (V.ptr 5 0))], 10⟩), (Blk.cells [(V.yld 11)]), (Blk.cells [(vu z9x2)]), (Blk.cells [(vb false)]), Blk.dfr, (Blk.loop .ready none ⟨106, [11], (subC [1, 1, 0, 0] (bodyOf Tryd.f106)), (subC [1, 1, 0, 1] (bodyOf Tryd.f106)), [(1, (V.ptr 7 0)), (2, (V.ptr 9 0)), (3, (V.ptr 8 0)), (4, (V.ptr 12 0))], 15⟩), Blk.dead], []⟩) y10
def q17_1_K (K : Ret → S → Prop) (z9 : next_Next_l1_Z) (z9q : q17_1_Q) (y10 : next_Next_l1_Y) : Prop := q17_1_Kp K (z9.2.1) (z9.2.2.1) (z9.2.2.2.1) (z9.2.2.2.2.1) (z9.2.2.2.2.2.1) (z9.2.2.2.2.2.2.1) (z9.2.2.2.2.2.2.2.1) z9q y10
def next_Next_l1 : Nat → next_Next_l1_Z → next_Next_l1_Y → Prop
  | 0, _, _ => False
  | k + 1, (z9x0, z9x1, z9x2, z9x3, z9x4, z9x5, z9x6, z9x7, z9x8, z9x9), y10_ => (br (decide (z9x9 < z9x8)) (req ((decide (0 ≤ z9x9)) && (decide (z9x9 < (((List.length z9x0) : Nat) : Int)))) (req (Nat.blt (Int.toNat z9x9) (List.length z9x0)) (∃ y11 : List Int, (mask_All_R z9x1 y11) ∧ (∃ y16 : next_Next_l0_Y, next_Next_l0_L (z9x0, y11, z9x1, z9x2, z9x3, z9x4, z9x5, z9x6, z9x7, (List.getD z9x0 (Int.toNat z9x9) 0), (((List.length y11) : Nat) : Int), 0) y16 ∧ sume (fun y16 => ((Sum.inl y16) = y10_)) (fun y16 => (next_Next_l1 k (z9x0, z9x1, z9x2, z9x3, z9x4, z9x5, z9x6, z9x7, z9x8, (IntKind.wrap .i64 (z9x9 + 1))) y10_)) y16)))) ((Sum.inr ()) = y10_))
def next_Next_l1_L (z : next_Next_l1_Z) (y : next_Next_l1_Y) : Prop := ∃ k, next_Next_l1 k z y
noncomputable def q17_1_lp : Lp := .auto none q17_1_body (loopG 18 q17_1_st (fun z y => ∃ k, next_Next_l1 k z y) q17_1_K)
noncomputable def q17_2_body : Code := subC [1, 0, 1, 1, 1, 0, 1, 0, 0] (bodyOf Tryd.f39)
abbrev next_Next_l2_Z : Type := Int × Int × Int × Int × Int × Int × Int × Int
abbrev next_Next_l2_Y : Type := Int × Bool
abbrev q17_2_C : Type := Unit
abbrev q17_2_Q : Type := Unit
noncomputable def q17_2_st (z3 : next_Next_l2_Z) (z3q : q17_2_Q) (z3c : q17_2_C) : S := ⟨[(1, (vi (z3.2.2.2.2.2.2.1))), (2, (vb false)), (4, (V.ptr 2 0)), (7, (V.ptr 3 0)), (8, (V.ptr 4 0)), (9, (V.ptr 5 0)), (10, (V.fn 105 [] [(V.ptr 6 0)])), (19, (vi (z3.2.2.2.2.2.2.2)))], [(Blk.cells [(vu (z3.1)), (vu (z3.2.1)), (vu (z3.2.2.1)), (vu (z3.2.2.2.1)), (vu (z3.2.2.2.2.1))]), (Blk.cells [(vi (z3.2.2.2.2.2.1))]), (Blk.cells [(vu (z3.1)), (vu (z3.2.1)), (vu (z3.2.2.1)), (vu (z3.2.2.2.1)), (vu (z3.2.2.2.2.1))]), (Blk.cells [(V.fn 41 [] [(V.ptr 1 0)])]), (Blk.cells [(vi 0)]), (Blk.cells [(vb false)]), (Blk.cells [(vu (z3.1)), (vu (z3.2.1)), (vu (z3.2.2.1)), (vu (z3.2.2.2.1)), (vu (z3.2.2.2.2.1))])], []⟩
def q17_2_Kp (K : Ret → S → Prop) (z3x0 : Int) (z3x1 : Int) (z3x2 : Int) (z3x3 : Int) (z3x4 : Int) (z3x5 : Int) (z3q : q17_2_Q) (y4 : next_Next_l2_Y) : Prop := K (.exit 0) ⟨[(8, (V.ptr 4 0)), (9, (V.ptr 5 0))], [(Blk.cells [(vu z3x0), (vu z3x1), (vu z3x2), (vu z3x3), (vu z3x4)]), (Blk.cells [(vi z3x5)]), Blk.dead, Blk.dead, (Blk.cells [(vi (y4.1))]), (Blk.cells [(vb (y4.2))]), Blk.dead, Blk.dead, Blk.dead, Blk.dead, Blk.dead, Blk.dead], []⟩
def q17_2_K (K : Ret → S → Prop) (z3 : next_Next_l2_Z) (z3q : q17_2_Q) (y4 : next_Next_l2_Y) : Prop := q17_2_Kp K (z3.1) (z3.2.1) (z3.2.2.1) (z3.2.2.2.1) (z3.2.2.2.2.1) (z3.2.2.2.2.2.1) z3q y4
def next_Next_l2 : Nat → next_Next_l2_Z → next_Next_l2_Y → Prop
  | 0, _, _ => False
  | k + 1, (z3x0, z3x1, z3x2, z3x3, z3x4, z3x5, z3x6, z3x7), y4_ => (br (decide (z3x7 < 2923)) (∃ y5 : (Int × Int × Int) × Int, (days_At_R (IntKind.wrap .i64 (z3x6 + z3x7)) y5) ∧ (br ((y5.2) == 0) (∃ y6 : Bool, (cron_Day_R z3x0 z3x1 z3x2 z3x3 z3x4 (y5.1.1) (y5.1.2.1) (y5.1.2.2) y6) ∧ (br (!y6) (next_Next_l2 k (z3x0, z3x1, z3x2, z3x3, z3x4, z3x5, z3x6, (IntKind.wrap .i64 (z3x7 + 1))) y4_) (∃ y7 : List Int, (mask_All_R z3x1 y7) ∧ (∃ y18 : next_Next_l1_Y, next_Next_l1_L (y7, z3x0, z3x1, z3x2, z3x3, z3x4, z3x5, (IntKind.wrap .i64 (z3x6 + z3x7)), (((List.length y7) : Nat) : Int), 0) y18 ∧ sume (fun y18 => ((y18, true) = y4_)) (fun y18 => (next_Next_l2 k (z3x0, z3x1, z3x2, z3x3, z3x4, z3x5, z3x6, (IntKind.wrap .i64 (z3x7 + 1))) y4_)) y18)))) (next_Next_l2 k (z3x0, z3x1, z3x2, z3x3, z3x4, z3x5, z3x6, (IntKind.wrap .i64 (z3x7 + 1))) y4_))) ((0, false) = y4_))
def next_Next_l2_L (z : next_Next_l2_Z) (y : next_Next_l2_Y) : Prop := ∃ k, next_Next_l2 k z y
noncomputable def q17_2_lp : Lp := .auto none q17_2_body (loopG 7 q17_2_st (fun z y => ∃ k, next_Next_l2 k z y) q17_2_K)
noncomputable def q17_lp : Nat → FuncId → Nat → Nat → Lp := lpTab [(127, 2, 23, 3, q17_0_lp), (127, 2, 18, 5, q17_1_lp), (39, 5, 7, 7, q17_2_lp)]
theorem q17_0_round (n : Nat) (z13x0 : List Int) (z13x1 : List Int) (z13x2 : Int) (z13x3 : Int) (z13x4 : Int) (z13x5 : Int) (z13x6 : Int) (z13x7 : Int) (z13x8 : Int) (z13x9 : Int) (z13x10 : Int) (z13x11 : Int) (z13q0 : Nat) (z13q1 : Nat) (K : Ret → S → Prop) (next : S → Prop) : acode q17_cx 127 (acall q17_cx okT q17_lp (n + 3)) (okT 127) (q17_lp (n + 3) 127) none q17_0_body (iterK (wkK 23 K) next) (q17_0_st (z13x0, z13x1, z13x2, z13x3, z13x4, z13x5, z13x6, z13x7, z13x8, z13x9, z13x10, z13x11) (z13q0, z13q1) ()) =
    (req true (br (decide (z13x11 < z13x10)) (rqn 6 (req ((decide (0 ≤ z13x11)) && (decide (z13x11 < (((List.length z13x1) : Nat) : Int)))) (req (Nat.blt (Int.toNat z13x11) (List.length z13x1)) (rqn 20 (br (decide ((wI ((wI ((wI (z13x8 * 86400)) + (wI (z13x9 * 3600)))) + (wI ((List.getD z13x1 (Int.toNat z13x11) 0) * 60)))) > z13x7)) (rqn 3 (wkK 23 K .ret ⟨[(0, (V.yld 21)), (2, (V.ptr 20 0)), (4, (V.row 22 1 (List.length z13x1) z13q1)), (9, (vi z13x10)), (10, (vi z13x11)), (11, (vb (decide (z13x11 < z13x10)))), (5, (vi z13x11)), (13, (vb false)), (25, (vb true))], [(Blk.cells [(vu z13x2), (vu z13x3), (vu z13x4), (vu z13x5), (vu z13x6)]), (Blk.cells [(vi z13x7)]), (Blk.cells [(vu z13x2), (vu z13x3), (vu z13x4), (vu z13x5), (vu z13x6)]), (Blk.cells [(V.fn 41 [] [(V.ptr 1 0)])]), (Blk.cells [(vi (wI ((wI ((wI (z13x8 * 86400)) + (wI (z13x9 * 3600)))) + (wI ((List.getD z13x1 (Int.toNat z13x11) 0) * 60)))))]), (Blk.cells [(vb true)]), (Blk.cells [(vu z13x2), (vu z13x3), (vu z13x4), (vu z13x5), (vu z13x6)]), (Blk.cells [(vu z13x2), (vu z13x3), (vu z13x4), (vu z13x5), (vu z13x6)]), (Blk.cells [(vi z13x8)]), (Blk.cells [(vb false)]), Blk.dfr, (Blk.loop .done (some (.exit 0)) ⟨39, [37], (subC [1, 0, 1, 1, 1, 0, 1, 0, 0, 1, 1, 0, 0, 1, 1, 1, 1, 1, 0, 0] (bodyOf Tryd.f39)), (subC [1, 0, 1, 1, 1, 0, 1, 0, 0, 1, 1, 0, 0, 1, 1, 1, 1, 1, 0, 1] (bodyOf Tryd.f39)), [(7, (V.ptr 3 0)), (8, (V.ptr 4 0)), (9, (V.ptr 5 0))], 10⟩), (Blk.cells [(V.yld 11)]), (Blk.cells [(vu z13x3)]), (Blk.cells [(vb false)]), Blk.dfr, (Blk.loop .busy none ⟨106, [11], (subC [1, 1, 0, 0] (bodyOf Tryd.f106)), (subC [1, 1, 0, 1] (bodyOf Tryd.f106)), [(1, (V.ptr 7 0)), (2, (V.ptr 9 0)), (3, (V.ptr 8 0)), (4, (V.ptr 12 0))], 15⟩), (Blk.row (.int .i64) z13x0 3 z13q0), (Blk.cells [(vi z13x9)]), (Blk.cells [(vu z13x2)]), (Blk.cells [(vb false)]), (Blk.loop .done (some .ret) ⟨106, [16], (subC [1, 1, 0, 1, 0, 1, 0, 0] (bodyOf Tryd.f106)), (subC [1, 1, 0, 1, 0, 1, 0, 1] (bodyOf Tryd.f106)), [(3, (V.ptr 8 0)), (4, (V.ptr 12 0)), (5, (V.ptr 18 0))], 15⟩), (Blk.row (.int .i64) z13x1 3 z13q1)], []⟩)) (rqn 4 (next ⟨[(0, (V.yld 21)), (2, (V.ptr 20 0)), (4, (V.row 22 1 (List.length z13x1) z13q1)), (9, (vi z13x10)), (10, (vi (wI (z13x11 + 1)))), (11, (vb (decide (z13x11 < z13x10)))), (5, (vi z13x11)), (13, (vb false)), (25, (vb false))], [(Blk.cells [(vu z13x2), (vu z13x3), (vu z13x4), (vu z13x5), (vu z13x6)]), (Blk.cells [(vi z13x7)]), (Blk.cells [(vu z13x2), (vu z13x3), (vu z13x4), (vu z13x5), (vu z13x6)]), (Blk.cells [(V.fn 41 [] [(V.ptr 1 0)])]), (Blk.cells [(vi 0)]), (Blk.cells [(vb false)]), (Blk.cells [(vu z13x2), (vu z13x3), (vu z13x4), (vu z13x5), (vu z13x6)]), (Blk.cells [(vu z13x2), (vu z13x3), (vu z13x4), (vu z13x5), (vu z13x6)]), (Blk.cells [(vi z13x8)]), (Blk.cells [(vb false)]), Blk.dfr, (Blk.loop .ready none ⟨39, [37], (subC [1, 0, 1, 1, 1, 0, 1, 0, 0, 1, 1, 0, 0, 1, 1, 1, 1, 1, 0, 0] (bodyOf Tryd.f39)), (subC [1, 0, 1, 1, 1, 0, 1, 0, 0, 1, 1, 0, 0, 1, 1, 1, 1, 1, 0, 1] (bodyOf Tryd.f39)), [(7, (V.ptr 3 0)), (8, (V.ptr 4 0)), (9, (V.ptr 5 0))], 10⟩), (Blk.cells [(V.yld 11)]), (Blk.cells [(vu z13x3)]), (Blk.cells [(vb false)]), Blk.dfr, (Blk.loop .busy none ⟨106, [11], (subC [1, 1, 0, 0] (bodyOf Tryd.f106)), (subC [1, 1, 0, 1] (bodyOf Tryd.f106)), [(1, (V.ptr 7 0)), (2, (V.ptr 9 0)), (3, (V.ptr 8 0)), (4, (V.ptr 12 0))], 15⟩), (Blk.row (.int .i64) z13x0 3 z13q0), (Blk.cells [(vi z13x9)]), (Blk.cells [(vu z13x2)]), (Blk.cells [(vb false)]), (Blk.loop .ready none ⟨106, [16], (subC [1, 1, 0, 1, 0, 1, 0, 0] (bodyOf Tryd.f106)), (subC [1, 1, 0, 1, 0, 1, 0, 1] (bodyOf Tryd.f106)), [(3, (V.ptr 8 0)), (4, (V.ptr 12 0)), (5, (V.ptr 18 0))], 15⟩), (Blk.row (.int .i64) z13x1 3 z13q1)], []⟩))))))) (wkK 23 K (.exit 0) ⟨[(0, (V.yld 21)), (2, (V.ptr 20 0)), (4, (V.row 22 1 (List.length z13x1) z13q1)), (9, (vi z13x10)), (10, (vi z13x11)), (11, (vb (decide (z13x11 < z13x10))))], [(Blk.cells [(vu z13x2), (vu z13x3), (vu z13x4), (vu z13x5), (vu z13x6)]), (Blk.cells [(vi z13x7)]), (Blk.cells [(vu z13x2), (vu z13x3), (vu z13x4), (vu z13x5), (vu z13x6)]), (Blk.cells [(V.fn 41 [] [(V.ptr 1 0)])]), (Blk.cells [(vi 0)]), (Blk.cells [(vb false)]), (Blk.cells [(vu z13x2), (vu z13x3), (vu z13x4), (vu z13x5), (vu z13x6)]), (Blk.cells [(vu z13x2), (vu z13x3), (vu z13x4), (vu z13x5), (vu z13x6)]), (Blk.cells [(vi z13x8)]), (Blk.cells [(vb false)]), Blk.dfr, (Blk.loop .ready none ⟨39, [37], (subC [1, 0, 1, 1, 1, 0, 1, 0, 0, 1, 1, 0, 0, 1, 1, 1, 1, 1, 0, 0] (bodyOf Tryd.f39)), (subC [1, 0, 1, 1, 1, 0, 1, 0, 0, 1, 1, 0, 0, 1, 1, 1, 1, 1, 0, 1] (bodyOf Tryd.f39)), [(7, (V.ptr 3 0)), (8, (V.ptr 4 0)), (9, (V.ptr 5 0))], 10⟩), (Blk.cells [(V.yld 11)]), (Blk.cells [(vu z13x3)]), (Blk.cells [(vb false)]), Blk.dfr, (Blk.loop .busy none ⟨106, [11], (subC [1, 1, 0, 0] (bodyOf Tryd.f106)), (subC [1, 1, 0, 1] (bodyOf Tryd.f106)), [(1, (V.ptr 7 0)), (2, (V.ptr 9 0)), (3, (V.ptr 8 0)), (4, (V.ptr 12 0))], 15⟩), (Blk.row (.int .i64) z13x0 3 z13q0), (Blk.cells [(vi z13x9)]), (Blk.cells [(vu z13x2)]), (Blk.cells [(vb false)]), (Blk.loop .ready none ⟨106, [16], (subC [1, 1, 0, 1, 0, 1, 0, 0] (bodyOf Tryd.f106)), (subC [1, 1, 0, 1, 0, 1, 0, 1] (bodyOf Tryd.f106)), [(3, (V.ptr 8 0)), (4, (V.ptr 12 0)), (5, (V.ptr 18 0))], 15⟩), (Blk.row (.int .i64) z13x1 3 z13q1)], []⟩))) := by kernel_rfl
theorem q17_0_step (n k : Nat) (z13x0 : List Int) (z13x1 : List Int) (z13x2 : Int) (z13x3 : Int) (z13x4 : Int) (z13x5 : Int) (z13x6 : Int) (z13x7 : Int) (z13x8 : Int) (z13x9 : Int) (z13x10 : Int) (z13x11 : Int) (z13q0 : Nat) (z13q1 : Nat) (y14_ : next_Next_l0_Y) (K : Ret → S → Prop) (h : next_Next_l0 (k + 1) (z13x0, z13x1, z13x2, z13x3, z13x4, z13x5, z13x6, z13x7, z13x8, z13x9, z13x10, z13x11) y14_) (hK : q17_0_Kp K z13x0 z13x2 z13x3 z13x4 z13x5 z13x6 z13x7 z13x8 z13x9 (z13q0, z13q1) y14_) (next : S → Prop) (hnext : ∀ z' s', next_Next_l0 k z' y14_ → q17_0_K K z' (z13q0, z13q1) y14_ → (∃ cc', wk 23 s' (q17_0_st z' (z13q0, z13q1) cc')) → next s') : acode q17_cx 127 (acall q17_cx okT q17_lp (n + 3)) (okT 127) (q17_lp (n + 3) 127) none q17_0_body (iterK (wkK 23 K) next) (q17_0_st (z13x0, z13x1, z13x2, z13x3, z13x4, z13x5, z13x6, z13x7, z13x8, z13x9, z13x10, z13x11) (z13q0, z13q1) ()) := by
  refine cast (q17_0_round n z13x0 z13x1 z13x2 z13x3 z13x4 z13x5 z13x6 z13x7 z13x8 z13x9 z13x10 z13x11 z13q0 z13q1 K next).symm ?_
  simp only [next_Next_l0] at h
  refine req_intro rfl ?_
  refine br_both h (fun hb h => ?_) (fun hb h => ?_)
  ·refine rqn_intro 6 ?_
   obtain ⟨q, h⟩ := req_of h
   refine req_intro (band (band_l q) (band_r q)) ?_
   obtain ⟨q, h⟩ := req_of h
   refine req_intro q ?_
   refine rqn_intro 20 ?_
   refine br_both h (fun hb h => ?_) (fun hb h => ?_)
   ·refine rqn_intro 3 ?_
    subst h
    refine ⟨_, ?_, hK⟩
    exact wk_of (Or.inr ⟨trivial, ⟨Or.inl rfl, Or.inl rfl, Or.inl rfl, Or.inl rfl, Or.inl rfl, Or.inl rfl, Or.inl rfl, Or.inl rfl, Or.inl rfl, Or.inl rfl, Or.inl rfl, Or.inl rfl, Or.inl rfl, Or.inl rfl, Or.inl rfl, Or.inl rfl, Or.inl rfl, Or.inl rfl, Or.inl rfl, Or.inl rfl, Or.inl rfl, Or.inl rfl, Or.inr (Or.inl rfl), trivial⟩, rfl, rfl, rfl⟩)
   ·refine rqn_intro 4 ?_
    exact hnext (z13x0, z13x1, z13x2, z13x3, z13x4, z13x5, z13x6, z13x7, z13x8, z13x9, z13x10, (wI (z13x11 + 1))) _ h hK ⟨(), wk_of (Or.inr ⟨⟨Or.inl rfl, Or.inl rfl, Or.inl rfl, Or.inl rfl, Or.inl rfl, trivial⟩, ⟨Or.inl rfl, Or.inl rfl, Or.inl rfl, Or.inl rfl, Or.inl rfl, Or.inl rfl, Or.inl rfl, Or.inl rfl, Or.inl rfl, Or.inl rfl, Or.inl rfl, Or.inl rfl, Or.inl rfl, Or.inl rfl, Or.inl rfl, Or.inl rfl, Or.inl rfl, Or.inl rfl, Or.inl rfl, Or.inl rfl, Or.inl rfl, Or.inl rfl, Or.inl rfl, trivial⟩, rfl, rfl, rfl⟩)⟩
  ·subst h
   refine ⟨_, ?_, hK⟩
   exact wk_of (Or.inr ⟨trivial, ⟨Or.inl rfl, Or.inl rfl, Or.inl rfl, Or.inl rfl, Or.inl rfl, Or.inl rfl, Or.inl rfl, Or.inl rfl, Or.inl rfl, Or.inl rfl, Or.inl rfl, Or.inl rfl, Or.inl rfl, Or.inl rfl, Or.inl rfl, Or.inl rfl, Or.inl rfl, Or.inl rfl, Or.inl rfl, Or.inl rfl, Or.inl rfl, Or.inl rfl, Or.inr (Or.inl rfl), trivial⟩, rfl, rfl, rfl⟩)
theorem q17_0_ok (n : Nat) : Owed q17_cx okT 127 q17_lp (n + 3) q17_0_lp := loop_owed (fun z y h => h) fun k zz qq cc yy K h hK next hnext => q17_0_step n k zz.1 zz.2.1 zz.2.2.1 zz.2.2.2.1 zz.2.2.2.2.1 zz.2.2.2.2.2.1 zz.2.2.2.2.2.2.1 zz.2.2.2.2.2.2.2.1 zz.2.2.2.2.2.2.2.2.1 zz.2.2.2.2.2.2.2.2.2.1 zz.2.2.2.2.2.2.2.2.2.2.1 zz.2.2.2.2.2.2.2.2.2.2.2 qq.1 qq.2 yy K h hK next hnext
theorem q17_1_round (n : Nat) (z9x0 : List Int) (z9x1 : Int) (z9x2 : Int) (z9x3 : Int) (z9x4 : Int) (z9x5 : Int) (z9x6 : Int) (z9x7 : Int) (z9x8 : Int) (z9x9 : Int) (z9q0 : Nat) (K : Ret → S → Prop) (next : S → Prop) : acode q17_cx 127 (acall q17_cx okT q17_lp (n + 5)) (okT 127) (q17_lp (n + 5) 127) none q17_1_body (iterK (wkK 18 K) next) (q17_1_st (z9x0, z9x1, z9x2, z9x3, z9x4, z9x5, z9x6, z9x7, z9x8, z9x9) z9q0 ()) =
    (req true (br (decide (z9x9 < z9x8)) (rqn 6 (req ((decide (0 ≤ z9x9)) && (decide (z9x9 < (((List.length z9x0) : Nat) : Int)))) (req (Nat.blt (Int.toNat z9x9) (List.length z9x0)) (rqn 9 (∃ y11 : List Int, (mask_All_R z9x1 y11) ∧ (∀ c12 : Nat, Nat.ble (List.length y11) c12 = true → (rqn 4 (((none : Option Nat) = (none : Option Nat)) ∧ (q17_0_body = q17_0_body) ∧ ∃ z15 : next_Next_l0_Z, ∃ z15q : q17_0_Q, ∃ y16 : next_Next_l0_Y, (23 = 23) ∧ (∃ zc : q17_0_C, wk 23 ⟨[(0, (V.yld 21)), (1, (V.ptr 19 0)), (2, (V.ptr 20 0)), (4, (V.row 22 1 (List.length y11) c12)), (9, (vi (((List.length y11) : Nat) : Int))), (10, (vi 0))], [(Blk.cells [(vu z9x1), (vu z9x2), (vu z9x3), (vu z9x4), (vu z9x5)]), (Blk.cells [(vi z9x6)]), (Blk.cells [(vu z9x1), (vu z9x2), (vu z9x3), (vu z9x4), (vu z9x5)]), (Blk.cells [(V.fn 41 [] [(V.ptr 1 0)])]), (Blk.cells [(vi 0)]), (Blk.cells [(vb false)]), (Blk.cells [(vu z9x1), (vu z9x2), (vu z9x3), (vu z9x4), (vu z9x5)]), (Blk.cells [(vu z9x1), (vu z9x2), (vu z9x3), (vu z9x4), (vu z9x5)]), (Blk.cells [(vi z9x7)]), (Blk.cells [(vb false)]), Blk.dfr, (Blk.loop .ready none ⟨39, [37], (subC [1, 0, 1, 1, 1, 0, 1, 0, 0, 1, 1, 0, 0, 1, 1, 1, 1, 1, 0, 0] (bodyOf Tryd.f39)), (subC [1, 0, 1, 1, 1, 0, 1, 0, 0, 1, 1, 0, 0, 1, 1, 1, 1, 1, 0, 1] (bodyOf Tryd.f39)), [(7, (V.ptr 3 0)), (8, (V.ptr 4 0)), (9, (V.ptr 5 0))], 10⟩), (Blk.cells [(V.yld 11)]), (Blk.cells [(vu z9x2)]), (Blk.cells [(vb false)]), Blk.dfr, (Blk.loop .busy none ⟨106, [11], (subC [1, 1, 0, 0] (bodyOf Tryd.f106)), (subC [1, 1, 0, 1] (bodyOf Tryd.f106)), [(1, (V.ptr 7 0)), (2, (V.ptr 9 0)), (3, (V.ptr 8 0)), (4, (V.ptr 12 0))], 15⟩), (Blk.row (.int .i64) z9x0 3 z9q0), (Blk.cells [(vi (List.getD z9x0 (Int.toNat z9x9) 0))]), (Blk.cells [(vu z9x1)]), (Blk.cells [(vb false)]), (Blk.loop .ready none ⟨106, [16], (subC [1, 1, 0, 1, 0, 1, 0, 0] (bodyOf Tryd.f106)), (subC [1, 1, 0, 1, 0, 1, 0, 1] (bodyOf Tryd.f106)), [(1, (V.ptr 7 0)), (2, (V.ptr 9 0)), (3, (V.ptr 8 0)), (4, (V.ptr 12 0)), (11, (vi (List.getD z9x0 (Int.toNat z9x9) 0))), (5, (V.ptr 18 0)), (15, (V.fn 127 [] [(V.ptr 19 0), (V.ptr 20 0)]))], 15⟩), (Blk.row (.int .i64) y11 3 c12)], []⟩ (q17_0_st z15 z15q zc)) ∧ (∃ k, next_Next_l0 k z15 y16) ∧ sume (fun y16 => (req true (wkK 18 K .ret ⟨[(0, (V.yld 16)), (2, (V.ptr 14 0)), (4, (V.row 17 1 (List.length z9x0) z9q0)), (9, (vi z9x8)), (10, (vi z9x9)), (11, (vb (decide (z9x9 < z9x8)))), (5, (vi z9x9)), (13, (vb false)), (25, (vb true))], [(Blk.cells [(vu (z15.2.2.1)), (vu (z15.2.2.2.1)), (vu (z15.2.2.2.2.1)), (vu (z15.2.2.2.2.2.1)), (vu (z15.2.2.2.2.2.2.1))]), (Blk.cells [(vi (z15.2.2.2.2.2.2.2.1))]), (Blk.cells [(vu (z15.2.2.1)), (vu (z15.2.2.2.1)), (vu (z15.2.2.2.2.1)), (vu (z15.2.2.2.2.2.1)), (vu (z15.2.2.2.2.2.2.1))]), (Blk.cells [(V.fn 41 [] [(V.ptr 1 0)])]), (Blk.cells [(vi y16)]), (Blk.cells [(vb true)]), (Blk.cells [(vu (z15.2.2.1)), (vu (z15.2.2.2.1)), (vu (z15.2.2.2.2.1)), (vu (z15.2.2.2.2.2.1)), (vu (z15.2.2.2.2.2.2.1))]), (Blk.cells [(vu (z15.2.2.1)), (vu (z15.2.2.2.1)), (vu (z15.2.2.2.2.1)), (vu (z15.2.2.2.2.2.1)), (vu (z15.2.2.2.2.2.2.1))]), (Blk.cells [(vi (z15.2.2.2.2.2.2.2.2.1))]), (Blk.cells [(vb false)]), Blk.dfr, (Blk.loop .done (some (.exit 0)) ⟨39, [37], (subC [1, 0, 1, 1, 1, 0, 1, 0, 0, 1, 1, 0, 0, 1, 1, 1, 1, 1, 0, 0] (bodyOf Tryd.f39)), (subC [1, 0, 1, 1, 1, 0, 1, 0, 0, 1, 1, 0, 0, 1, 1, 1, 1, 1, 0, 1] (bodyOf Tryd.f39)), [(7, (V.ptr 3 0)), (8, (V.ptr 4 0)), (9, (V.ptr 5 0))], 10⟩), (Blk.cells [(V.yld 11)]), (Blk.cells [(vu (z15.2.2.2.1))]), (Blk.cells [(vb false)]), Blk.dfr, (Blk.loop .done (some .ret) ⟨106, [11], (subC [1, 1, 0, 0] (bodyOf Tryd.f106)), (subC [1, 1, 0, 1] (bodyOf Tryd.f106)), [(1, (V.ptr 7 0)), (2, (V.ptr 9 0)), (3, (V.ptr 8 0)), (4, (V.ptr 12 0))], 15⟩), (Blk.row (.int .i64) (z15.1) 3 (z15q.1))], []⟩))) (fun y16 => (rqn 3 (next ⟨[(0, (V.yld 16)), (2, (V.ptr 14 0)), (4, (V.row 17 1 (List.length z9x0) z9q0)), (9, (vi z9x8)), (10, (vi (wI (z9x9 + 1)))), (11, (vb (decide (z9x9 < z9x8)))), (5, (vi z9x9)), (13, (vb false)), (25, (vb false))], [(Blk.cells [(vu (z15.2.2.1)), (vu (z15.2.2.2.1)), (vu (z15.2.2.2.2.1)), (vu (z15.2.2.2.2.2.1)), (vu (z15.2.2.2.2.2.2.1))]), (Blk.cells [(vi (z15.2.2.2.2.2.2.2.1))]), (Blk.cells [(vu (z15.2.2.1)), (vu (z15.2.2.2.1)), (vu (z15.2.2.2.2.1)), (vu (z15.2.2.2.2.2.1)), (vu (z15.2.2.2.2.2.2.1))]), (Blk.cells [(V.fn 41 [] [(V.ptr 1 0)])]), (Blk.cells [(vi 0)]), (Blk.cells [(vb false)]), (Blk.cells [(vu (z15.2.2.1)), (vu (z15.2.2.2.1)), (vu (z15.2.2.2.2.1)), (vu (z15.2.2.2.2.2.1)), (vu (z15.2.2.2.2.2.2.1))]), (Blk.cells [(vu (z15.2.2.1)), (vu (z15.2.2.2.1)), (vu (z15.2.2.2.2.1)), (vu (z15.2.2.2.2.2.1)), (vu (z15.2.2.2.2.2.2.1))]), (Blk.cells [(vi (z15.2.2.2.2.2.2.2.2.1))]), (Blk.cells [(vb false)]), Blk.dfr, (Blk.loop .ready none ⟨39, [37], (subC [1, 0, 1, 1, 1, 0, 1, 0, 0, 1, 1, 0, 0, 1, 1, 1, 1, 1, 0, 0] (bodyOf Tryd.f39)), (subC [1, 0, 1, 1, 1, 0, 1, 0, 0, 1, 1, 0, 0, 1, 1, 1, 1, 1, 0, 1] (bodyOf Tryd.f39)), [(7, (V.ptr 3 0)), (8, (V.ptr 4 0)), (9, (V.ptr 5 0))], 10⟩), (Blk.cells [(V.yld 11)]), (Blk.cells [(vu (z15.2.2.2.1))]), (Blk.cells [(vb false)]), Blk.dfr, (Blk.loop .ready none ⟨106, [11], (subC [1, 1, 0, 0] (bodyOf Tryd.f106)), (subC [1, 1, 0, 1] (bodyOf Tryd.f106)), [(1, (V.ptr 7 0)), (2, (V.ptr 9 0)), (3, (V.ptr 8 0)), (4, (V.ptr 12 0))], 15⟩), (Blk.row (.int .i64) (z15.1) 3 (z15q.1))], []⟩))) y16)))))))) (wkK 18 K (.exit 0) ⟨[(0, (V.yld 16)), (2, (V.ptr 14 0)), (4, (V.row 17 1 (List.length z9x0) z9q0)), (9, (vi z9x8)), (10, (vi z9x9)), (11, (vb (decide (z9x9 < z9x8))))], [(Blk.cells [(vu z9x1), (vu z9x2), (vu z9x3), (vu z9x4), (vu z9x5)]), (Blk.cells [(vi z9x6)]), (Blk.cells [(vu z9x1), (vu z9x2), (vu z9x3), (vu z9x4), (vu z9x5)]), (Blk.cells [(V.fn 41 [] [(V.ptr 1 0)])]), (Blk.cells [(vi 0)]), (Blk.cells [(vb false)]), (Blk.cells [(vu z9x1), (vu z9x2), (vu z9x3), (vu z9x4), (vu z9x5)]), (Blk.cells [(vu z9x1), (vu z9x2), (vu z9x3), (vu z9x4), (vu z9x5)]), (Blk.cells [(vi z9x7)]), (Blk.cells [(vb false)]), Blk.dfr, (Blk.loop .ready none ⟨39, [37], (subC [1, 0, 1, 1, 1, 0, 1, 0, 0, 1, 1, 0, 0, 1, 1, 1, 1, 1, 0, 0] (bodyOf Tryd.f39)), (subC [1, 0, 1, 1, 1, 0, 1, 0, 0, 1, 1, 0, 0, 1, 1, 1, 1, 1, 0, 1] (bodyOf Tryd.f39)), [(7, (V.ptr 3 0)), (8, (V.ptr 4 0)), (9, (V.ptr 5 0))], 10⟩), (Blk.cells [(V.yld 11)]), (Blk.cells [(vu z9x2)]), (Blk.cells [(vb false)]), Blk.dfr, (Blk.loop .ready none ⟨106, [11], (subC [1, 1, 0, 0] (bodyOf Tryd.f106)), (subC [1, 1, 0, 1] (bodyOf Tryd.f106)), [(1, (V.ptr 7 0)), (2, (V.ptr 9 0)), (3, (V.ptr 8 0)), (4, (V.ptr 12 0))], 15⟩), (Blk.row (.int .i64) z9x0 3 z9q0)], []⟩))) := by kernel_rfl
theorem q17_1_step (n k : Nat) (z9x0 : List Int) (z9x1 : Int) (z9x2 : Int) (z9x3 : Int) (z9x4 : Int) (z9x5 : Int) (z9x6 : Int) (z9x7 : Int) (z9x8 : Int) (z9x9 : Int) (z9q0 : Nat) (y10_ : next_Next_l1_Y) (K : Ret → S → Prop) (h : next_Next_l1 (k + 1) (z9x0, z9x1, z9x2, z9x3, z9x4, z9x5, z9x6, z9x7, z9x8, z9x9) y10_) (hK : q17_1_Kp K z9x1 z9x2 z9x3 z9x4 z9x5 z9x6 z9x7 z9q0 y10_) (next : S → Prop) (hnext : ∀ z' s', next_Next_l1 k z' y10_ → q17_1_K K z' z9q0 y10_ → (∃ cc', wk 18 s' (q17_1_st z' z9q0 cc')) → next s') : acode q17_cx 127 (acall q17_cx okT q17_lp (n + 5)) (okT 127) (q17_lp (n + 5) 127) none q17_1_body (iterK (wkK 18 K) next) (q17_1_st (z9x0, z9x1, z9x2, z9x3, z9x4, z9x5, z9x6, z9x7, z9x8, z9x9) z9q0 ()) := by
  refine cast (q17_1_round n z9x0 z9x1 z9x2 z9x3 z9x4 z9x5 z9x6 z9x7 z9x8 z9x9 z9q0 K next).symm ?_
  simp only [next_Next_l1] at h
  refine req_intro rfl ?_
  refine br_both h (fun hb h => ?_) (fun hb h => ?_)
  ·refine rqn_intro 6 ?_
   obtain ⟨q, h⟩ := req_of h
   refine req_intro (band (band_l q) (band_r q)) ?_
   obtain ⟨q, h⟩ := req_of h
   refine req_intro q ?_
   refine rqn_intro 9 ?_
   refine ex_both h fun y11 h => ?_
   intro c12 hc12
   refine rqn_intro 4 ?_
   obtain ⟨y16, ry16, h⟩ := h
   refine ⟨rfl, rfl, (z9x0, y11, z9x1, z9x2, z9x3, z9x4, z9x5, z9x6, z9x7, (List.getD z9x0 (Int.toNat z9x9) 0), (((List.length y11) : Nat) : Int), 0), (z9q0, c12), y16, rfl, ⟨(), wk_of (Or.inr ⟨⟨Or.inl rfl, Or.inl rfl, Or.inl rfl, Or.inl rfl, Or.inl rfl, trivial⟩, ⟨Or.inl rfl, Or.inl rfl, Or.inl rfl, Or.inl rfl, Or.inl rfl, Or.inl rfl, Or.inl rfl, Or.inl rfl, Or.inl rfl, Or.inl rfl, Or.inl rfl, Or.inl rfl, Or.inl rfl, Or.inl rfl, Or.inl rfl, Or.inl rfl, Or.inl rfl, Or.inl rfl, Or.inl rfl, Or.inl rfl, Or.inl rfl, Or.inr (Or.inr (Or.inr ⟨rfl, rfl, rfl, rfl, rfl, rfl, rfl, ⟨Or.inl rfl, Or.inl rfl, Or.inl rfl, trivial⟩⟩)), Or.inl rfl, trivial⟩, rfl, rfl, rfl⟩)⟩, ry16, ?_⟩
   refine sume_both h (fun y16 h => ?_) (fun y16 h => ?_)
   ·refine req_intro rfl ?_
    subst h
    refine ⟨_, ?_, hK⟩
    exact wk_of (Or.inr ⟨trivial, ⟨Or.inl rfl, Or.inl rfl, Or.inl rfl, Or.inl rfl, Or.inl rfl, Or.inl rfl, Or.inl rfl, Or.inl rfl, Or.inl rfl, Or.inl rfl, Or.inl rfl, Or.inl rfl, Or.inl rfl, Or.inl rfl, Or.inl rfl, Or.inl rfl, Or.inl rfl, Or.inr (Or.inl rfl), trivial⟩, rfl, rfl, rfl⟩)
   ·refine rqn_intro 3 ?_
    exact hnext (z9x0, z9x1, z9x2, z9x3, z9x4, z9x5, z9x6, z9x7, z9x8, (wI (z9x9 + 1))) _ h hK ⟨(), wk_of (Or.inr ⟨⟨Or.inl rfl, Or.inl rfl, Or.inl rfl, Or.inl rfl, Or.inl rfl, trivial⟩, ⟨Or.inl rfl, Or.inl rfl, Or.inl rfl, Or.inl rfl, Or.inl rfl, Or.inl rfl, Or.inl rfl, Or.inl rfl, Or.inl rfl, Or.inl rfl, Or.inl rfl, Or.inl rfl, Or.inl rfl, Or.inl rfl, Or.inl rfl, Or.inl rfl, Or.inl rfl, Or.inl rfl, trivial⟩, rfl, rfl, rfl⟩)⟩
  ·subst h
   refine ⟨_, ?_, hK⟩
   exact wk_of (Or.inr ⟨trivial, ⟨Or.inl rfl, Or.inl rfl, Or.inl rfl, Or.inl rfl, Or.inl rfl, Or.inl rfl, Or.inl rfl, Or.inl rfl, Or.inl rfl, Or.inl rfl, Or.inl rfl, Or.inl rfl, Or.inl rfl, Or.inl rfl, Or.inl rfl, Or.inl rfl, Or.inl rfl, Or.inr (Or.inl rfl), trivial⟩, rfl, rfl, rfl⟩)
theorem q17_1_ok (n : Nat) : Owed q17_cx okT 127 q17_lp (n + 5) q17_1_lp := loop_owed (fun z y h => h) fun k zz qq cc yy K h hK next hnext => q17_1_step n k zz.1 zz.2.1 zz.2.2.1 zz.2.2.2.1 zz.2.2.2.2.1 zz.2.2.2.2.2.1 zz.2.2.2.2.2.2.1 zz.2.2.2.2.2.2.2.1 zz.2.2.2.2.2.2.2.2.1 zz.2.2.2.2.2.2.2.2.2 qq yy K h hK next hnext
theorem q17_2_round (n : Nat) (z3x0 : Int) (z3x1 : Int) (z3x2 : Int) (z3x3 : Int) (z3x4 : Int) (z3x5 : Int) (z3x6 : Int) (z3x7 : Int) (K : Ret → S → Prop) (next : S → Prop) : acode q17_cx 39 (acall q17_cx okT q17_lp (n + 7)) (okT 39) (q17_lp (n + 7) 39) none q17_2_body (iterK (wkK 7 K) next) (q17_2_st (z3x0, z3x1, z3x2, z3x3, z3x4, z3x5, z3x6, z3x7) () ()) =
    (req true (br (decide (z3x7 < 2923)) (rqn 12 (∃ y5 : (Int × Int × Int) × Int, (days_At_R (wI (z3x6 + z3x7)) y5) ∧ (rqn 7 (br ((y5.2) == 0) (rqn 3 (∃ y6 : Bool, (cron_Day_R z3x0 z3x1 z3x2 z3x3 z3x4 (y5.1.1) (y5.1.2.1) (y5.1.2.2) y6) ∧ (rqn 3 (br (!y6) (rqn 2 (next ⟨[(1, (vi z3x6)), (2, (vb false)), (4, (V.ptr 2 0)), (7, (V.ptr 3 0)), (8, (V.ptr 4 0)), (9, (V.ptr 5 0)), (10, (V.fn 105 [] [(V.ptr 6 0)])), (19, (vi (wI (z3x7 + 1)))), (20, (vb (decide (z3x7 < 2923)))), (11, (vi z3x7)), (12, (vi (wI (z3x6 + z3x7)))), (25, (vb false)), (32, (vb (!y6)))], [(Blk.cells [(vu z3x0), (vu z3x1), (vu z3x2), (vu z3x3), (vu z3x4)]), (Blk.cells [(vi z3x5)]), (Blk.cells [(vu z3x0), (vu z3x1), (vu z3x2), (vu z3x3), (vu z3x4)]), (Blk.cells [(V.fn 41 [] [(V.ptr 1 0)])]), (Blk.cells [(vi 0)]), (Blk.cells [(vb false)]), (Blk.cells [(vu z3x0), (vu z3x1), (vu z3x2), (vu z3x3), (vu z3x4)])], []⟩)) (rqn 14 (∃ y7 : List Int, (mask_All_R z3x1 y7) ∧ (∀ c8 : Nat, Nat.ble (List.length y7) c8 = true → (rqn 4 (((none : Option Nat) = (none : Option Nat)) ∧ (q17_1_body = q17_1_body) ∧ ∃ z17 : next_Next_l1_Z, ∃ z17q : q17_1_Q, ∃ y18 : next_Next_l1_Y, (18 = 18) ∧ (∃ zc : q17_1_C, wk 18 ⟨[(0, (V.yld 16)), (1, (V.ptr 13 0)), (2, (V.ptr 14 0)), (4, (V.row 17 1 (List.length y7) c8)), (9, (vi (((List.length y7) : Nat) : Int))), (10, (vi 0))], [(Blk.cells [(vu z3x0), (vu z3x1), (vu z3x2), (vu z3x3), (vu z3x4)]), (Blk.cells [(vi z3x5)]), (Blk.cells [(vu z3x0), (vu z3x1), (vu z3x2), (vu z3x3), (vu z3x4)]), (Blk.cells [(V.fn 41 [] [(V.ptr 1 0)])]), (Blk.cells [(vi 0)]), (Blk.cells [(vb false)]), (Blk.cells [(vu z3x0), (vu z3x1), (vu z3x2), (vu z3x3), (vu z3x4)]), (Blk.cells [(vu z3x0), (vu z3x1), (vu z3x2), (vu z3x3), (vu z3x4)]), (Blk.cells [(vi (wI (z3x6 + z3x7)))]), (Blk.cells [(vb false)]), Blk.dfr, (Blk.loop .ready none ⟨39, [37], (subC [1, 0, 1, 1, 1, 0, 1, 0, 0, 1, 1, 0, 0, 1, 1, 1, 1, 1, 0, 0] (bodyOf Tryd.f39)), (subC [1, 0, 1, 1, 1, 0, 1, 0, 0, 1, 1, 0, 0, 1, 1, 1, 1, 1, 0, 1] (bodyOf Tryd.f39)), [(1, (vi z3x6)), (2, (vb false)), (4, (V.ptr 2 0)), (7, (V.ptr 3 0)), (8, (V.ptr 4 0)), (9, (V.ptr 5 0)), (10, (V.fn 105 [] [(V.ptr 6 0)])), (19, (vi z3x7)), (20, (vb (decide (z3x7 < 2923)))), (11, (vi z3x7)), (12, (vi (wI (z3x6 + z3x7)))), (25, (vb false)), (32, (vb (!y6))), (36, (V.fn 106 [] [(V.ptr 7 0), (V.ptr 9 0), (V.ptr 8 0)]))], 10⟩), (Blk.cells [(V.yld 11)]), (Blk.cells [(vu z3x1)]), (Blk.cells [(vb false)]), Blk.dfr, (Blk.loop .ready none ⟨106, [11], (subC [1, 1, 0, 0] (bodyOf Tryd.f106)), (subC [1, 1, 0, 1] (bodyOf Tryd.f106)), [(0, (V.yld 11)), (1, (V.ptr 7 0)), (2, (V.ptr 9 0)), (3, (V.ptr 8 0)), (4, (V.ptr 12 0)), (10, (V.fn 127 [] [(V.ptr 13 0), (V.ptr 14 0)]))], 15⟩), (Blk.row (.int .i64) y7 3 c8)], []⟩ (q17_1_st z17 z17q zc)) ∧ (∃ k, next_Next_l1 k z17 y18) ∧ sume (fun y18 => (wkK 7 K (.exit 0) ⟨[(1, (vi z3x6)), (2, (vb false)), (4, (V.ptr 2 0)), (7, (V.ptr 3 0)), (8, (V.ptr 4 0)), (9, (V.ptr 5 0)), (10, (V.fn 105 [] [(V.ptr 6 0)])), (19, (vi z3x7)), (20, (vb (decide (z3x7 < 2923)))), (11, (vi z3x7)), (12, (vi (wI (z3x6 + z3x7)))), (25, (vb false)), (32, (vb (!y6))), (36, (V.fn 106 [] [(V.ptr 7 0), (V.ptr 9 0), (V.ptr 8 0)]))], [(Blk.cells [(vu (z17.2.1)), (vu (z17.2.2.1)), (vu (z17.2.2.2.1)), (vu (z17.2.2.2.2.1)), (vu (z17.2.2.2.2.2.1))]), (Blk.cells [(vi (z17.2.2.2.2.2.2.1))]), (Blk.cells [(vu (z17.2.1)), (vu (z17.2.2.1)), (vu (z17.2.2.2.1)), (vu (z17.2.2.2.2.1)), (vu (z17.2.2.2.2.2.1))]), (Blk.cells [(V.fn 41 [] [(V.ptr 1 0)])]), (Blk.cells [(vi y18)]), (Blk.cells [(vb true)]), (Blk.cells [(vu (z17.2.1)), (vu (z17.2.2.1)), (vu (z17.2.2.2.1)), (vu (z17.2.2.2.2.1)), (vu (z17.2.2.2.2.2.1))]), (Blk.cells [(vu (z17.2.1)), (vu (z17.2.2.1)), (vu (z17.2.2.2.1)), (vu (z17.2.2.2.2.1)), (vu (z17.2.2.2.2.2.1))]), (Blk.cells [(vi (z17.2.2.2.2.2.2.2.1))]), (Blk.cells [(vb false)]), Blk.dfr, Blk.dead], [10]⟩)) (fun y18 => (rqn 2 (next ⟨[(1, (vi z3x6)), (2, (vb false)), (4, (V.ptr 2 0)), (7, (V.ptr 3 0)), (8, (V.ptr 4 0)), (9, (V.ptr 5 0)), (10, (V.fn 105 [] [(V.ptr 6 0)])), (19, (vi (wI (z3x7 + 1)))), (20, (vb (decide (z3x7 < 2923)))), (11, (vi z3x7)), (12, (vi (wI (z3x6 + z3x7)))), (25, (vb false)), (32, (vb (!y6))), (36, (V.fn 106 [] [(V.ptr 7 0), (V.ptr 9 0), (V.ptr 8 0)]))], [(Blk.cells [(vu (z17.2.1)), (vu (z17.2.2.1)), (vu (z17.2.2.2.1)), (vu (z17.2.2.2.2.1)), (vu (z17.2.2.2.2.2.1))]), (Blk.cells [(vi (z17.2.2.2.2.2.2.1))]), (Blk.cells [(vu (z17.2.1)), (vu (z17.2.2.1)), (vu (z17.2.2.2.1)), (vu (z17.2.2.2.2.1)), (vu (z17.2.2.2.2.2.1))]), (Blk.cells [(V.fn 41 [] [(V.ptr 1 0)])]), (Blk.cells [(vi 0)]), (Blk.cells [(vb false)]), (Blk.cells [(vu (z17.2.1)), (vu (z17.2.2.1)), (vu (z17.2.2.2.1)), (vu (z17.2.2.2.2.1)), (vu (z17.2.2.2.2.2.1))]), (Blk.cells [(vu (z17.2.1)), (vu (z17.2.2.1)), (vu (z17.2.2.2.1)), (vu (z17.2.2.2.2.1)), (vu (z17.2.2.2.2.2.1))]), (Blk.cells [(vi (z17.2.2.2.2.2.2.2.1))]), (Blk.cells [(vb false)]), Blk.dfr, Blk.dead], [10]⟩))) y18))))))))) (rqn 5 (next ⟨[(1, (vi z3x6)), (2, (vb false)), (4, (V.ptr 2 0)), (7, (V.ptr 3 0)), (8, (V.ptr 4 0)), (9, (V.ptr 5 0)), (10, (V.fn 105 [] [(V.ptr 6 0)])), (19, (vi (wI (z3x7 + 1)))), (20, (vb (decide (z3x7 < 2923)))), (11, (vi z3x7)), (12, (vi (wI (z3x6 + z3x7)))), (25, (vb false)), (32, (vb true))], [(Blk.cells [(vu z3x0), (vu z3x1), (vu z3x2), (vu z3x3), (vu z3x4)]), (Blk.cells [(vi z3x5)]), (Blk.cells [(vu z3x0), (vu z3x1), (vu z3x2), (vu z3x3), (vu z3x4)]), (Blk.cells [(V.fn 41 [] [(V.ptr 1 0)])]), (Blk.cells [(vi 0)]), (Blk.cells [(vb false)]), (Blk.cells [(vu z3x0), (vu z3x1), (vu z3x2), (vu z3x3), (vu z3x4)])], []⟩)))))) (wkK 7 K (.exit 0) ⟨[(1, (vi z3x6)), (2, (vb false)), (4, (V.ptr 2 0)), (7, (V.ptr 3 0)), (8, (V.ptr 4 0)), (9, (V.ptr 5 0)), (10, (V.fn 105 [] [(V.ptr 6 0)])), (19, (vi z3x7)), (20, (vb (decide (z3x7 < 2923))))], [(Blk.cells [(vu z3x0), (vu z3x1), (vu z3x2), (vu z3x3), (vu z3x4)]), (Blk.cells [(vi z3x5)]), (Blk.cells [(vu z3x0), (vu z3x1), (vu z3x2), (vu z3x3), (vu z3x4)]), (Blk.cells [(V.fn 41 [] [(V.ptr 1 0)])]), (Blk.cells [(vi 0)]), (Blk.cells [(vb false)]), (Blk.cells [(vu z3x0), (vu z3x1), (vu z3x2), (vu z3x3), (vu z3x4)])], []⟩))) := by kernel_rfl
theorem q17_2_step (n k : Nat) (z3x0 : Int) (z3x1 : Int) (z3x2 : Int) (z3x3 : Int) (z3x4 : Int) (z3x5 : Int) (z3x6 : Int) (z3x7 : Int) (y4_ : next_Next_l2_Y) (K : Ret → S → Prop) (h : next_Next_l2 (k + 1) (z3x0, z3x1, z3x2, z3x3, z3x4, z3x5, z3x6, z3x7) y4_) (hK : q17_2_Kp K z3x0 z3x1 z3x2 z3x3 z3x4 z3x5 () y4_) (next : S → Prop) (hnext : ∀ z' s', next_Next_l2 k z' y4_ → q17_2_K K z' () y4_ → (∃ cc', wk 7 s' (q17_2_st z' () cc')) → next s') : acode q17_cx 39 (acall q17_cx okT q17_lp (n + 7)) (okT 39) (q17_lp (n + 7) 39) none q17_2_body (iterK (wkK 7 K) next) (q17_2_st (z3x0, z3x1, z3x2, z3x3, z3x4, z3x5, z3x6, z3x7) () ()) := by
  refine cast (q17_2_round n z3x0 z3x1 z3x2 z3x3 z3x4 z3x5 z3x6 z3x7 K next).symm ?_
  simp only [next_Next_l2] at h
  refine req_intro rfl ?_
  refine br_both h (fun hb h => ?_) (fun hb h => ?_)
  ·refine rqn_intro 12 ?_
   refine ex_both h fun y5 h => ?_
   refine rqn_intro 7 ?_
   refine br_both h (fun hb h => ?_) (fun hb h => ?_)
   ·refine rqn_intro 3 ?_
    refine ex_both h fun y6 h => ?_
    refine rqn_intro 3 ?_
    refine br_both h (fun hb h => ?_) (fun hb h => ?_)
    ·refine rqn_intro 2 ?_
     exact hnext (z3x0, z3x1, z3x2, z3x3, z3x4, z3x5, z3x6, (wI (z3x7 + 1))) _ h hK ⟨(), wk_of (Or.inr ⟨⟨Or.inl rfl, Or.inl rfl, Or.inl rfl, Or.inl rfl, Or.inl rfl, Or.inl rfl, Or.inl rfl, Or.inl rfl, trivial⟩, ⟨Or.inl rfl, Or.inl rfl, Or.inl rfl, Or.inl rfl, Or.inl rfl, Or.inl rfl, Or.inl rfl, trivial⟩, rfl, rfl, rfl⟩)⟩
    ·refine rqn_intro 14 ?_
     refine ex_both h fun y7 h => ?_
     intro c8 hc8
     refine rqn_intro 4 ?_
     obtain ⟨y18, ry18, h⟩ := h
     refine ⟨rfl, rfl, (y7, z3x0, z3x1, z3x2, z3x3, z3x4, z3x5, (wI (z3x6 + z3x7)), (((List.length y7) : Nat) : Int), 0), c8, y18, rfl, ⟨(), wk_of (Or.inr ⟨⟨Or.inl rfl, Or.inl rfl, Or.inl rfl, Or.inl rfl, Or.inl rfl, trivial⟩, ⟨Or.inl rfl, Or.inl rfl, Or.inl rfl, Or.inl rfl, Or.inl rfl, Or.inl rfl, Or.inl rfl, Or.inl rfl, Or.inl rfl, Or.inl rfl, Or.inl rfl, Or.inr (Or.inr (Or.inr ⟨rfl, rfl, rfl, rfl, rfl, rfl, rfl, ⟨Or.inl rfl, Or.inl rfl, Or.inl rfl, trivial⟩⟩)), Or.inl rfl, Or.inl rfl, Or.inl rfl, Or.inl rfl, Or.inr (Or.inr (Or.inr ⟨rfl, rfl, rfl, rfl, rfl, rfl, rfl, ⟨Or.inl rfl, Or.inl rfl, Or.inl rfl, Or.inl rfl, trivial⟩⟩)), Or.inl rfl, trivial⟩, rfl, rfl, rfl⟩)⟩, ry18, ?_⟩
     refine sume_both h (fun y18 h => ?_) (fun y18 h => ?_)
     ·subst h
      refine ⟨_, ?_, hK⟩
      exact ⟨_, ⟨[(8, (V.ptr 4 0)), (9, (V.ptr 5 0))], [(Blk.cells [(vu z3x0), (vu z3x1), (vu z3x2), (vu z3x3), (vu z3x4)]), (Blk.cells [(vi z3x5)]), Blk.dead, Blk.dead, (Blk.cells [(vi y18)]), (Blk.cells [(vb true)]), Blk.dead, Blk.dead, Blk.dead, Blk.dead, Blk.dead, Blk.dead], []⟩, ⟨[10], rfl, rfl⟩, Or.inr ⟨[0, 1, 2, 3, 4, 5, 6, 0, 0, 0, 0, 0], rfl, rfl, rfl, rfl, rfl, ⟨rfl, rfl, trivial⟩, ⟨Or.inr rfl, Or.inr rfl, Or.inl rfl, Or.inl rfl, Or.inr rfl, Or.inr rfl, Or.inl rfl, Or.inl rfl, Or.inl rfl, Or.inl rfl, Or.inl rfl, Or.inl rfl, trivial⟩, rfl, rfl⟩, Or.inr ⟨⟨Or.inl rfl, Or.inl rfl, trivial⟩, ⟨Or.inl rfl, Or.inl rfl, Or.inl rfl, Or.inl rfl, Or.inl rfl, Or.inl rfl, Or.inl rfl, Or.inl rfl, Or.inl rfl, Or.inl rfl, Or.inl rfl, Or.inl rfl, trivial⟩, rfl, rfl, rfl⟩⟩
     ·refine rqn_intro 2 ?_
      exact hnext (z3x0, z3x1, z3x2, z3x3, z3x4, z3x5, z3x6, (wI (z3x7 + 1))) _ h hK ⟨(), ⟨_, _, ⟨[10], rfl, rfl⟩, Or.inl rfl, Or.inr ⟨⟨Or.inl rfl, Or.inl rfl, Or.inl rfl, Or.inl rfl, Or.inl rfl, Or.inl rfl, Or.inl rfl, Or.inl rfl, trivial⟩, ⟨Or.inl rfl, Or.inl rfl, Or.inl rfl, Or.inl rfl, Or.inl rfl, Or.inl rfl, Or.inl rfl, trivial⟩, rfl, rfl, rfl⟩⟩⟩
   ·refine rqn_intro 5 ?_
    exact hnext (z3x0, z3x1, z3x2, z3x3, z3x4, z3x5, z3x6, (wI (z3x7 + 1))) _ h hK ⟨(), wk_of (Or.inr ⟨⟨Or.inl rfl, Or.inl rfl, Or.inl rfl, Or.inl rfl, Or.inl rfl, Or.inl rfl, Or.inl rfl, Or.inl rfl, trivial⟩, ⟨Or.inl rfl, Or.inl rfl, Or.inl rfl, Or.inl rfl, Or.inl rfl, Or.inl rfl, Or.inl rfl, trivial⟩, rfl, rfl, rfl⟩)⟩
  ·subst h
   refine ⟨_, ?_, hK⟩
   exact ⟨_, ⟨[(8, (V.ptr 4 0)), (9, (V.ptr 5 0))], [(Blk.cells [(vu z3x0), (vu z3x1), (vu z3x2), (vu z3x3), (vu z3x4)]), (Blk.cells [(vi z3x5)]), Blk.dead, Blk.dead, (Blk.cells [(vi 0)]), (Blk.cells [(vb false)]), Blk.dead, Blk.dead, Blk.dead, Blk.dead, Blk.dead, Blk.dead], []⟩, ⟨[], rfl, rfl⟩, Or.inr ⟨[0, 1, 2, 3, 4, 5, 6, 0, 0, 0, 0, 0], rfl, rfl, rfl, rfl, rfl, ⟨rfl, rfl, trivial⟩, ⟨Or.inr rfl, Or.inr rfl, Or.inl rfl, Or.inl rfl, Or.inr rfl, Or.inr rfl, Or.inl rfl, Or.inl rfl, Or.inl rfl, Or.inl rfl, Or.inl rfl, Or.inl rfl, trivial⟩, rfl, rfl⟩, Or.inr ⟨⟨Or.inl rfl, Or.inl rfl, trivial⟩, ⟨Or.inl rfl, Or.inl rfl, Or.inl rfl, Or.inl rfl, Or.inl rfl, Or.inl rfl, Or.inl rfl, Or.inl rfl, Or.inl rfl, Or.inl rfl, Or.inl rfl, Or.inl rfl, trivial⟩, rfl, rfl, rfl⟩⟩
theorem q17_2_ok (n : Nat) : Owed q17_cx okT 39 q17_lp (n + 7) q17_2_lp := loop_owed (fun z y h => h) fun k zz qq cc yy K h hK next hnext => q17_2_step n k zz.1 zz.2.1 zz.2.2.1 zz.2.2.2.1 zz.2.2.2.2.1 zz.2.2.2.2.2.1 zz.2.2.2.2.2.2.1 zz.2.2.2.2.2.2.2 yy K h hK next hnext
theorem q17_lpok : LpOk q17_cx okT q17_lp := LpOk_tab ⟨q17_0_ok, q17_1_ok, q17_2_ok, trivial⟩
def next_Next_R (a0 : Int) (a1 : Int) (a2 : Int) (a3 : Int) (a4 : Int) (a5 : Int) (y : Int × Bool) : Prop :=
  (∃ y1 : Int, (next_of_R a5 y1) ∧ (∃ y2 : Int, (cron_Check_R a0 a1 a2 a3 a4 y2) ∧ (br (y2 != 0) ((0, false) = y) (∃ y20 : next_Next_l2_Y, next_Next_l2_L (a0, a1, a2, a3, a4, a5, y1, 0) y20 ∧ (((y20.1), (y20.2)) = y)))))
theorem q17_tree (a0 : Int) (a1 : Int) (a2 : Int) (a3 : Int) (a4 : Int) (a5 : Int) (y : Int × Bool) : acall q17_cx okT q17_lp 60 (.fn 17 [] []) [(V.agg [(V.int .u64 a0), (V.int .u64 a1), (V.int .u64 a2), (V.int .u64 a3), (V.int .u64 a4)]), (V.int .i64 a5)] [] (leafK (.tup (.cons (.int .i64) (.one .bool))) y) =
    (rqn 3 ((rqn 3 (∃ y1 : Int, (next_of_R a5 y1) ∧ (rqn 2 (∃ y2 : Int, (cron_Check_R a0 a1 a2 a3 a4 y2) ∧ (req true (br (y2 != 0) (rqn 4 (req true ((0, false) = y))) (rqn 6 (((none : Option Nat) = (none : Option Nat)) ∧ (q17_2_body = q17_2_body) ∧ ∃ z19 : next_Next_l2_Z, ∃ z19q : q17_2_Q, ∃ y20 : next_Next_l2_Y, (7 = 7) ∧ (∃ zc : q17_2_C, wk 7 ⟨[(0, (V.agg [(vu a0), (vu a1), (vu a2), (vu a3), (vu a4)])), (1, (vi y1)), (2, (vb false)), (3, (V.fn 41 [] [(V.ptr 1 0)])), (4, (V.ptr 2 0)), (7, (V.ptr 3 0)), (8, (V.ptr 4 0)), (9, (V.ptr 5 0)), (16, (vb (y2 != 0))), (10, (V.fn 105 [] [(V.ptr 6 0)])), (19, (vi 0))], [(Blk.cells [(vu a0), (vu a1), (vu a2), (vu a3), (vu a4)]), (Blk.cells [(vi a5)]), (Blk.cells [(vu a0), (vu a1), (vu a2), (vu a3), (vu a4)]), (Blk.cells [(V.fn 41 [] [(V.ptr 1 0)])]), (Blk.cells [(vi 0)]), (Blk.cells [(vb false)]), (Blk.cells [(vu a0), (vu a1), (vu a2), (vu a3), (vu a4)])], []⟩ (q17_2_st z19 z19q zc)) ∧ (∃ k, next_Next_l2 k z19 y20) ∧ ((req true (an 1 (rqn 5 (req true (((y20.1), (y20.2)) = y))))) ∧ (rqn 6 (req true (((y20.1), (y20.2)) = y)))))))))))) ∧ (req true ((rqn 2 (∃ y21 : Int, (next_of_R a5 y21) ∧ (rqn 2 (∃ y22 : Int, (cron_Check_R a0 a1 a2 a3 a4 y22) ∧ (req true (br (y22 != 0) (rqn 4 (req true ((0, false) = y))) (rqn 6 (((none : Option Nat) = (none : Option Nat)) ∧ (q17_2_body = q17_2_body) ∧ ∃ z23 : next_Next_l2_Z, ∃ z23q : q17_2_Q, ∃ y24 : next_Next_l2_Y, (7 = 7) ∧ (∃ zc : q17_2_C, wk 7 ⟨[(0, (V.agg [(vu a0), (vu a1), (vu a2), (vu a3), (vu a4)])), (1, (vi y21)), (2, (vb false)), (3, (V.fn 41 [] [(V.ptr 1 0)])), (4, (V.ptr 2 0)), (7, (V.ptr 3 0)), (8, (V.ptr 4 0)), (9, (V.ptr 5 0)), (16, (vb (y22 != 0))), (10, (V.fn 105 [] [(V.ptr 6 0)])), (19, (vi 0))], [(Blk.cells [(vu a0), (vu a1), (vu a2), (vu a3), (vu a4)]), (Blk.cells [(vi a5)]), (Blk.cells [(vu a0), (vu a1), (vu a2), (vu a3), (vu a4)]), (Blk.cells [(V.fn 41 [] [(V.ptr 1 0)])]), (Blk.cells [(vi 0)]), (Blk.cells [(vb false)]), (Blk.cells [(vu a0), (vu a1), (vu a2), (vu a3), (vu a4)])], []⟩ (q17_2_st z23 z23q zc)) ∧ (∃ k, next_Next_l2 k z23 y24) ∧ ((req true (an 1 (rqn 5 (req true (((y24.1), (y24.2)) = y))))) ∧ (rqn 6 (req true (((y24.1), (y24.2)) = y)))))))))))) ∧ (req true (∃ y25 : Int, (next_of_R a5 y25) ∧ (rqn 3 (∃ y26 : Int, (cron_Check_R a0 a1 a2 a3 a4 y26) ∧ (req true (br (y26 != 0) (rqn 4 (req true ((0, false) = y))) (rqn 6 (((none : Option Nat) = (none : Option Nat)) ∧ (q17_2_body = q17_2_body) ∧ ∃ z27 : next_Next_l2_Z, ∃ z27q : q17_2_Q, ∃ y28 : next_Next_l2_Y, (7 = 7) ∧ (∃ zc : q17_2_C, wk 7 ⟨[(0, (V.agg [(vu a0), (vu a1), (vu a2), (vu a3), (vu a4)])), (1, (vi y25)), (2, (vb false)), (3, (V.fn 41 [] [(V.ptr 1 0)])), (4, (V.ptr 2 0)), (7, (V.ptr 3 0)), (8, (V.ptr 4 0)), (9, (V.ptr 5 0)), (16, (vb (y26 != 0))), (10, (V.fn 105 [] [(V.ptr 6 0)])), (19, (vi 0))], [(Blk.cells [(vu a0), (vu a1), (vu a2), (vu a3), (vu a4)]), (Blk.cells [(vi a5)]), (Blk.cells [(vu a0), (vu a1), (vu a2), (vu a3), (vu a4)]), (Blk.cells [(V.fn 41 [] [(V.ptr 1 0)])]), (Blk.cells [(vi 0)]), (Blk.cells [(vb false)]), (Blk.cells [(vu a0), (vu a1), (vu a2), (vu a3), (vu a4)])], []⟩ (q17_2_st z27 z27q zc)) ∧ (∃ k, next_Next_l2 k z27 y28) ∧ ((req true (an 1 (rqn 5 (req true (((y28.1), (y28.2)) = y))))) ∧ (rqn 6 (req true (((y28.1), (y28.2)) = y)))))))))))))))) := by kernel_rfl
theorem q17_run (a0 : Int) (a1 : Int) (a2 : Int) (a3 : Int) (a4 : Int) (a5 : Int) (y : Int × Bool) (h : next_Next_R a0 a1 a2 a3 a4 a5 y) : acall q17_cx okT q17_lp 60 (.fn 17 [] []) [(V.agg [(V.int .u64 a0), (V.int .u64 a1), (V.int .u64 a2), (V.int .u64 a3), (V.int .u64 a4)]), (V.int .i64 a5)] [] (leafK (.tup (.cons (.int .i64) (.one .bool))) y) := by
  refine cast (q17_tree a0 a1 a2 a3 a4 a5 y).symm ?_
  unfold next_Next_R at h
  refine rqn_intro 3 ?_
  refine ⟨?_, ?_⟩
  ·refine rqn_intro 3 ?_
   refine ex_both h fun y1 h => ?_
   refine rqn_intro 2 ?_
   refine ex_both h fun y2 h => ?_
   refine req_intro rfl ?_
   refine br_both h (fun hb h => ?_) (fun hb h => ?_)
   ·refine rqn_intro 4 ?_
    exact req_intro rfl h
   ·refine rqn_intro 6 ?_
    obtain ⟨y20, ry20, h⟩ := h
    refine ⟨rfl, rfl, (a0, a1, a2, a3, a4, a5, y1, 0), (), y20, rfl, ⟨(), wk_of (Or.inr ⟨⟨Or.inl rfl, Or.inl rfl, Or.inl rfl, Or.inl rfl, Or.inl rfl, Or.inl rfl, Or.inl rfl, Or.inl rfl, trivial⟩, ⟨Or.inl rfl, Or.inl rfl, Or.inl rfl, Or.inl rfl, Or.inl rfl, Or.inl rfl, Or.inl rfl, trivial⟩, rfl, rfl, rfl⟩)⟩, ry20, ?_⟩
    refine ⟨?_, ?_⟩
    ·refine req_intro rfl ?_
     refine an_intro 1 ?_
     refine rqn_intro 5 ?_
     exact req_intro rfl h
    ·refine rqn_intro 6 ?_
     exact req_intro rfl h
  ·refine req_intro rfl ?_
   refine ⟨?_, ?_⟩
   ·refine rqn_intro 2 ?_
    refine ex_both h fun y21 h => ?_
    refine rqn_intro 2 ?_
    refine ex_both h fun y22 h => ?_
    refine req_intro rfl ?_
    refine br_both h (fun hb h => ?_) (fun hb h => ?_)
    ·refine rqn_intro 4 ?_
     exact req_intro rfl h
    ·refine rqn_intro 6 ?_
     obtain ⟨y24, ry24, h⟩ := h
     refine ⟨rfl, rfl, (a0, a1, a2, a3, a4, a5, y21, 0), (), y24, rfl, ⟨(), wk_of (Or.inr ⟨⟨Or.inl rfl, Or.inl rfl, Or.inl rfl, Or.inl rfl, Or.inl rfl, Or.inl rfl, Or.inl rfl, Or.inl rfl, trivial⟩, ⟨Or.inl rfl, Or.inl rfl, Or.inl rfl, Or.inl rfl, Or.inl rfl, Or.inl rfl, Or.inl rfl, trivial⟩, rfl, rfl, rfl⟩)⟩, ry24, ?_⟩
     refine ⟨?_, ?_⟩
     ·refine req_intro rfl ?_
      refine an_intro 1 ?_
      refine rqn_intro 5 ?_
      exact req_intro rfl h
     ·refine rqn_intro 6 ?_
      exact req_intro rfl h
   ·refine req_intro rfl ?_
    refine ex_both h fun y25 h => ?_
    refine rqn_intro 3 ?_
    refine ex_both h fun y26 h => ?_
    refine req_intro rfl ?_
    refine br_both h (fun hb h => ?_) (fun hb h => ?_)
    ·refine rqn_intro 4 ?_
     exact req_intro rfl h
    ·refine rqn_intro 6 ?_
     obtain ⟨y28, ry28, h⟩ := h
     refine ⟨rfl, rfl, (a0, a1, a2, a3, a4, a5, y25, 0), (), y28, rfl, ⟨(), wk_of (Or.inr ⟨⟨Or.inl rfl, Or.inl rfl, Or.inl rfl, Or.inl rfl, Or.inl rfl, Or.inl rfl, Or.inl rfl, Or.inl rfl, trivial⟩, ⟨Or.inl rfl, Or.inl rfl, Or.inl rfl, Or.inl rfl, Or.inl rfl, Or.inl rfl, Or.inl rfl, trivial⟩, rfl, rfl, rfl⟩)⟩, ry28, ?_⟩
     refine ⟨?_, ?_⟩
     ·refine req_intro rfl ?_
      refine an_intro 1 ?_
      refine rqn_intro 5 ?_
      exact req_intro rfl h
     ·refine rqn_intro 6 ?_
      exact req_intro rfl h
theorem next_Next_ok : FxOk Tryd.prog gsT 17 (.cons (.agg (.cons (.int .u64) (.cons (.int .u64) (.cons (.int .u64) (.cons (.int .u64) (.one (.int .u64))))))) (.one (.int .i64))) (.tup (.cons (.int .i64) (.one .bool))) fun x y => next_Next_R (x.1.1) (x.1.2.1) (x.1.2.2.1) (x.1.2.2.2.1) (x.1.2.2.2.2) (x.2) y := fx_of (c := q17_cx) (ty_ok rfl) (eq_ok rfl) q17_fns follows_ok (ok := okT) (lp := q17_lp) (n := 60) q17_lpok (enters Tryd.func17 (by kernel_rfl) rfl) (fun y => ⟨_, rfl⟩) fun x y h => q17_run _ _ _ _ _ _ y h
noncomputable def q21_cx : Cx := ⟨tyT, [(17, .fx (.cons (.agg (.cons (.int .u64) (.cons (.int .u64) (.cons (.int .u64) (.cons (.int .u64) (.one (.int .u64))))))) (.one (.int .i64))) (.tup (.cons (.int .i64) (.one .bool))) fun x y => next_Next_R (x.1.1) (x.1.2.1) (x.1.2.2.1) (x.1.2.2.2.1) (x.1.2.2.2.2) (x.2) y),
  (21, .body Tryd.f21)], gsT, eqT⟩
theorem q21_fns : FnsOk Tryd.prog q21_cx := Fns_assoc ⟨next_Next_ok, body_ent Tryd.func21 (by kernel_rfl) (by kernel_rfl), trivial⟩
def next_Ever_R (a0 : Int) (a1 : Int) (a2 : Int) (a3 : Int) (a4 : Int) (y : Bool) : Prop :=
  (∃ y1 : Int × Bool, (next_Next_R a0 a1 a2 a3 a4 (-1) y1) ∧ ((y1.2) = y))
theorem q21_tree (a0 : Int) (a1 : Int) (a2 : Int) (a3 : Int) (a4 : Int) (y : Bool) : acall q21_cx okT lpT 60 (.fn 21 [] []) [(V.agg [(V.int .u64 a0), (V.int .u64 a1), (V.int .u64 a2), (V.int .u64 a3), (V.int .u64 a4)])] [] (leafK .bool y) =
    (rqn 3 (∃ y1 : Int × Bool, (next_Next_R a0 a1 a2 a3 a4 (-1) y1) ∧ (rqn 7 (req true ((y1.2) = y))))) := by kernel_rfl
theorem q21_run (a0 : Int) (a1 : Int) (a2 : Int) (a3 : Int) (a4 : Int) (y : Bool) (h : next_Ever_R a0 a1 a2 a3 a4 y) : acall q21_cx okT lpT 60 (.fn 21 [] []) [(V.agg [(V.int .u64 a0), (V.int .u64 a1), (V.int .u64 a2), (V.int .u64 a3), (V.int .u64 a4)])] [] (leafK .bool y) := by
  refine cast (q21_tree a0 a1 a2 a3 a4 y).symm ?_
  unfold next_Ever_R at h
  refine rqn_intro 3 ?_
  refine ex_both h fun y1 h => ?_
  refine rqn_intro 7 ?_
  exact req_intro rfl h
theorem next_Ever_ok : FxOk Tryd.prog gsT 21 (.one (.agg (.cons (.int .u64) (.cons (.int .u64) (.cons (.int .u64) (.cons (.int .u64) (.one (.int .u64)))))))) .bool fun x y => next_Ever_R (x.1) (x.2.1) (x.2.2.1) (x.2.2.2.1) (x.2.2.2.2) y := fx_of (c := q21_cx) (ty_ok rfl) (eq_ok rfl) q21_fns follows_ok (ok := okT) (lp := lpT) (n := 60) lp_ok (enters Tryd.func21 (by kernel_rfl) rfl) (fun y => ⟨_, rfl⟩) fun x y h => q21_run _ _ _ _ _ y h
noncomputable def q70_cx : Cx := ⟨tyT, [(70, .body Tryd.f70)], gsT, eqT⟩
theorem q70_fns : FnsOk Tryd.prog q70_cx := Fns_assoc ⟨body_ent Tryd.func70 (by kernel_rfl) (by kernel_rfl), trivial⟩
noncomputable def q70_0_body : Code := subC [1, 0, 1, 0, 0] (bodyOf Tryd.f70)
abbrev job_within_l0_Z : Type := List Int × Int
abbrev job_within_l0_Y : Type := (Unit) ⊕ (Unit)
abbrev q70_0_C : Type := Unit
abbrev q70_0_Q : Type := Unit
noncomputable def q70_0_st (z1 : job_within_l0_Z) (z1q : q70_0_Q) (z1c : q70_0_C) : S := ⟨[(0, (V.sl (.int .i64) (z1.1) none)), (3, (vi (z1.2)))], [], []⟩
def q70_0_Kp (K : Ret → S → Prop) (z1q : q70_0_Q) (y2 : job_within_l0_Y) : Prop := sume (fun y2 => K .ret ⟨[(2, (vb false))], [], []⟩) (fun y2 => K (.exit 0) ⟨[], [], []⟩) y2
def q70_0_K (K : Ret → S → Prop) (z1 : job_within_l0_Z) (z1q : q70_0_Q) (y2 : job_within_l0_Y) : Prop := q70_0_Kp K z1q y2
def job_within_l0 : Nat → job_within_l0_Z → job_within_l0_Y → Prop
  | 0, _, _ => False
  | k + 1, (z1x0, z1x1), y2_ => (br (decide (z1x1 < (((List.length z1x0) : Nat) : Int))) (req ((decide (0 ≤ z1x1)) && (decide (z1x1 < (((List.length z1x0) : Nat) : Int)))) (br (decide ((List.getD z1x0 (Int.toNat z1x1) 0) < 0)) ((Sum.inl ()) = y2_) (req ((decide (0 ≤ z1x1)) && (decide (z1x1 < (((List.length z1x0) : Nat) : Int)))) (req ((decide (0 ≤ (IntKind.wrap .i64 (z1x1 + 1)))) && (decide ((IntKind.wrap .i64 (z1x1 + 1)) < (((List.length z1x0) : Nat) : Int)))) (br (decide ((List.getD z1x0 (Int.toNat z1x1) 0) > (List.getD z1x0 (Int.toNat (IntKind.wrap .i64 (z1x1 + 1))) 0))) ((Sum.inl ()) = y2_) (job_within_l0 k (z1x0, (IntKind.wrap .i64 (z1x1 + 2))) y2_)))))) ((Sum.inr ()) = y2_))
def job_within_l0_L (z : job_within_l0_Z) (y : job_within_l0_Y) : Prop := ∃ k, job_within_l0 k z y
noncomputable def q70_0_lp : Lp := .auto none q70_0_body (loopG 0 q70_0_st (fun z y => ∃ k, job_within_l0 k z y) q70_0_K)
noncomputable def q70_lp : Nat → FuncId → Nat → Nat → Lp := lpTab [(70, 2, 0, 0, q70_0_lp)]
theorem q70_0_round (n : Nat) (z1x0 : List Int) (z1x1 : Int) (K : Ret → S → Prop) (next : S → Prop) : acode q70_cx 70 (acall q70_cx okT q70_lp (n + 0)) (okT 70) (q70_lp (n + 0) 70) none q70_0_body (iterK (wkK 0 K) next) (q70_0_st (z1x0, z1x1) () ()) =
    (rqn 4 (br (decide (z1x1 < (((List.length z1x0) : Nat) : Int))) (rqn 3 (req ((decide (0 ≤ z1x1)) && (decide (z1x1 < (((List.length z1x0) : Nat) : Int)))) (rqn 3 (br (decide ((List.getD z1x0 (Int.toNat z1x1) 0) < 0)) (rqn 2 (wkK 0 K .ret ⟨[(0, (V.sl (.int .i64) z1x0 none)), (3, (vi z1x1)), (7, (vb (decide (z1x1 < (((List.length z1x0) : Nat) : Int))))), (26, (vb true)), (2, (vb false))], [], []⟩)) (rqn 2 (req ((decide (0 ≤ z1x1)) && (decide (z1x1 < (((List.length z1x0) : Nat) : Int)))) (rqn 4 (req ((decide (0 ≤ (wI (z1x1 + 1)))) && (decide ((wI (z1x1 + 1)) < (((List.length z1x0) : Nat) : Int)))) (rqn 3 (br (decide ((List.getD z1x0 (Int.toNat z1x1) 0) > (List.getD z1x0 (Int.toNat (wI (z1x1 + 1))) 0))) (req true (wkK 0 K .ret ⟨[(0, (V.sl (.int .i64) z1x0 none)), (3, (vi z1x1)), (7, (vb (decide (z1x1 < (((List.length z1x0) : Nat) : Int))))), (26, (vb (decide ((List.getD z1x0 (Int.toNat z1x1) 0) > (List.getD z1x0 (Int.toNat (wI (z1x1 + 1))) 0))))), (2, (vb false))], [], []⟩)) (rqn 3 (next ⟨[(0, (V.sl (.int .i64) z1x0 none)), (3, (vi (wI (z1x1 + 2)))), (7, (vb (decide (z1x1 < (((List.length z1x0) : Nat) : Int))))), (26, (vb (decide ((List.getD z1x0 (Int.toNat z1x1) 0) > (List.getD z1x0 (Int.toNat (wI (z1x1 + 1))) 0)))))], [], []⟩)))))))))))) (wkK 0 K (.exit 0) ⟨[(0, (V.sl (.int .i64) z1x0 none)), (3, (vi z1x1)), (7, (vb (decide (z1x1 < (((List.length z1x0) : Nat) : Int)))))], [], []⟩))) := by kernel_rfl
theorem q70_0_step (n k : Nat) (z1x0 : List Int) (z1x1 : Int) (y2_ : job_within_l0_Y) (K : Ret → S → Prop) (h : job_within_l0 (k + 1) (z1x0, z1x1) y2_) (hK : q70_0_Kp K () y2_) (next : S → Prop) (hnext : ∀ z' s', job_within_l0 k z' y2_ → q70_0_K K z' () y2_ → (∃ cc', wk 0 s' (q70_0_st z' () cc')) → next s') : acode q70_cx 70 (acall q70_cx okT q70_lp (n + 0)) (okT 70) (q70_lp (n + 0) 70) none q70_0_body (iterK (wkK 0 K) next) (q70_0_st (z1x0, z1x1) () ()) := by
  refine cast (q70_0_round n z1x0 z1x1 K next).symm ?_
  simp only [job_within_l0] at h
  refine rqn_intro 4 ?_
  refine br_both h (fun hb h => ?_) (fun hb h => ?_)
  ·refine rqn_intro 3 ?_
   obtain ⟨q, h⟩ := req_of h
   refine req_intro (band (band_l q) (band_r q)) ?_
   refine rqn_intro 3 ?_
   refine br_both h (fun hb h => ?_) (fun hb h => ?_)
   ·refine rqn_intro 2 ?_
    subst h
    refine ⟨_, ?_, hK⟩
    exact wk_of (Or.inr ⟨⟨Or.inl rfl, trivial⟩, trivial, rfl, rfl, rfl⟩)
   ·refine rqn_intro 2 ?_
    obtain ⟨q, h⟩ := req_of h
    refine req_intro (band (band_l q) (band_r q)) ?_
    refine rqn_intro 4 ?_
    obtain ⟨q, h⟩ := req_of h
    refine req_intro (band (band_l q) (band_r q)) ?_
    refine rqn_intro 3 ?_
    refine br_both h (fun hb h => ?_) (fun hb h => ?_)
    ·refine req_intro rfl ?_
     subst h
     refine ⟨_, ?_, hK⟩
     exact wk_of (Or.inr ⟨⟨Or.inl rfl, trivial⟩, trivial, rfl, rfl, rfl⟩)
    ·refine rqn_intro 3 ?_
     exact hnext (z1x0, (wI (z1x1 + 2))) _ h hK ⟨(), wk_of (Or.inr ⟨⟨Or.inl rfl, Or.inl rfl, trivial⟩, trivial, rfl, rfl, rfl⟩)⟩
  ·subst h
   refine ⟨_, ?_, hK⟩
   exact wk_of (Or.inr ⟨trivial, trivial, rfl, rfl, rfl⟩)
theorem q70_0_ok (n : Nat) : Owed q70_cx okT 70 q70_lp (n + 0) q70_0_lp := loop_owed (fun z y h => h) fun k zz qq cc yy K h hK next hnext => q70_0_step n k zz.1 zz.2 yy K h hK next hnext
theorem q70_lpok : LpOk q70_cx okT q70_lp := LpOk_tab ⟨q70_0_ok, trivial⟩
def job_within_R (a0 : List Int) (y : Bool) : Prop :=
  (∃ y4 : job_within_l0_Y, job_within_l0_L (a0, 0) y4 ∧ sume (fun y4 => (false = y)) (fun y4 => (true = y)) y4)
theorem q70_tree (a0 : List Int) (y : Bool) : acall q70_cx okT q70_lp 60 (.fn 70 [] []) [(V.sl (.int .i64) a0 none)] [] (leafK .bool y) =
    (rqn 2 (((none : Option Nat) = (none : Option Nat)) ∧ (q70_0_body = q70_0_body) ∧ ∃ z3 : job_within_l0_Z, ∃ z3q : q70_0_Q, ∃ y4 : job_within_l0_Y, (0 = 0) ∧ (∃ zc : q70_0_C, wk 0 ⟨[(0, (V.sl (.int .i64) a0 none)), (2, (vb false)), (3, (vi 0))], [], []⟩ (q70_0_st z3 z3q zc)) ∧ (∃ k, job_within_l0 k z3 y4) ∧ sume (fun y4 => (req true (false = y))) (fun y4 => (req true (req true (true = y)))) y4)) := by kernel_rfl
theorem q70_run (a0 : List Int) (y : Bool) (h : job_within_R a0 y) : acall q70_cx okT q70_lp 60 (.fn 70 [] []) [(V.sl (.int .i64) a0 none)] [] (leafK .bool y) := by
  refine cast (q70_tree a0 y).symm ?_
  unfold job_within_R at h
  refine rqn_intro 2 ?_
  obtain ⟨y4, ry4, h⟩ := h
  refine ⟨rfl, rfl, (a0, 0), (), y4, rfl, ⟨(), wk_of (Or.inr ⟨⟨Or.inl rfl, Or.inl rfl, trivial⟩, trivial, rfl, rfl, rfl⟩)⟩, ry4, ?_⟩
  refine sume_both h (fun y4 h => ?_) (fun y4 h => ?_)
  ·exact req_intro rfl h
  ·refine req_intro rfl ?_
   exact req_intro rfl h
theorem job_within_ok : FxOk Tryd.prog gsT 70 (.one (.sl (.int .i64))) .bool fun x y => job_within_R x y := fx_of (c := q70_cx) (ty_ok rfl) (eq_ok rfl) q70_fns follows_ok (ok := okT) (lp := q70_lp) (n := 60) q70_lpok (enters Tryd.func70 (by kernel_rfl) rfl) (fun y => ⟨_, rfl⟩) fun x y h => q70_run _ y h
noncomputable def q33_cx : Cx := ⟨tyT, [(21, .fx (.one (.agg (.cons (.int .u64) (.cons (.int .u64) (.cons (.int .u64) (.cons (.int .u64) (.one (.int .u64)))))))) .bool fun x y => next_Ever_R (x.1) (x.2.1) (x.2.2.1) (x.2.2.2.1) (x.2.2.2.2) y),
  (23, .fx (.one (.agg (.cons (.int .u64) (.cons (.int .u64) (.cons (.int .u64) (.cons (.int .u64) (.one (.int .u64)))))))) (.int .i64) fun x y => cron_Check_R (x.1) (x.2.1) (x.2.2.1) (x.2.2.2.1) (x.2.2.2.2) y),
  (33, .body Tryd.f33),
  (70, .fx (.one (.sl (.int .i64))) .bool fun x y => job_within_R x y)], gsT, eqT⟩
theorem q33_fns : FnsOk Tryd.prog q33_cx := Fns_assoc ⟨next_Ever_ok, cron_Check_ok, body_ent Tryd.func33 (by kernel_rfl) (by kernel_rfl), job_within_ok, trivial⟩
def job_Check_R (a0 : Int) (a1 : Bool) (a2 : Int) (a3 : Int) (a4 : Int) (a5 : Int) (a6 : Int) (a7 : Int) (a8 : Int) (a9 : Int) (a10 : Int) (y : Int) : Prop :=
  (br (a0 != 0) (∃ y1 : Bool, (job_within_R [a8, 1, a9, 2, a10, 3] y1) ∧ (br a1 (br y1 (br (decide (a7 ≥ 0)) (br (!(decide (a7 ≤ 253402300799))) (200 = y) (br (!((a0 == a0) && ((a1 == a1) && (((0 == a2) && ((0 == a3) && ((0 == a4) && ((0 == a5) && ((0 == a6) && true))))) && ((a7 == a7) && ((a8 == a8) && ((a9 == a9) && ((a10 == a10) && true)))))))) (200 = y) (br (!a1) (∃ y2 : Bool, (next_Ever_R a2 a3 a4 a5 a6 y2) ∧ (br (!y2) (201 = y) (0 = y))) (0 = y)))) (200 = y)) (200 = y)) (br y1 (∃ y3 : Int, (cron_Check_R a2 a3 a4 a5 a6 y3) ∧ (br (!(y3 == 0)) (200 = y) (br (!((a0 == a0) && ((a1 == a1) && (((a2 == a2) && ((a3 == a3) && ((a4 == a4) && ((a5 == a5) && ((a6 == a6) && true))))) && ((0 == a7) && ((a8 == a8) && ((a9 == a9) && ((a10 == a10) && true)))))))) (200 = y) (br (!a1) (∃ y4 : Bool, (next_Ever_R a2 a3 a4 a5 a6 y4) ∧ (br (!y4) (201 = y) (0 = y))) (0 = y))))) (200 = y)))) (br a1 (200 = y) (200 = y)))
theorem q33_tree (a0 : Int) (a1 : Bool) (a2 : Int) (a3 : Int) (a4 : Int) (a5 : Int) (a6 : Int) (a7 : Int) (a8 : Int) (a9 : Int) (a10 : Int) (y : Int) : acall q33_cx okT lpT 60 (.fn 33 [] []) [(V.agg [(V.int .u32 a0), (V.bool a1), (V.int .u64 a2), (V.int .u64 a3), (V.int .u64 a4), (V.int .u64 a5), (V.int .u64 a6), (V.int .i64 a7), (V.int .i64 a8), (V.int .i64 a9), (V.int .i64 a10)])] [] (leafK (.int .i64) y) =
    (rqn 6 (br (a0 != 0) (rqn 7 (∃ y1 : Bool, (job_within_R [a8, 1, a9, 2, a10, 3] y1) ∧ (rqn 4 (br a1 (rqn 4 (br y1 (rqn 5 (br (decide (a7 ≥ 0)) (rqn 8 (br (!(decide (a7 ≤ 253402300799))) (rqn 3 (req true (200 = y))) (rqn 5 (br (!((a0 == a0) && ((a1 == a1) && (((0 == a2) && ((0 == a3) && ((0 == a4) && ((0 == a5) && ((0 == a6) && true))))) && ((a7 == a7) && ((a8 == a8) && ((a9 == a9) && ((a10 == a10) && true)))))))) (req true (req true (200 = y))) (rqn 4 (br (!a1) (rqn 3 (∃ y2 : Bool, (next_Ever_R a2 a3 a4 a5 a6 y2) ∧ (rqn 3 (br (!y2) (req true (req true (201 = y))) (req true (req true (0 = y))))))) (rqn 3 (req true (0 = y))))))))) (rqn 8 (req true (200 = y))))) (rqn 10 (req true (200 = y))))) (rqn 3 (br y1 (rqn 3 (∃ y3 : Int, (cron_Check_R a2 a3 a4 a5 a6 y3) ∧ (rqn 6 (br (!(y3 == 0)) (rqn 3 (req true (200 = y))) (rqn 5 (br (!((a0 == a0) && ((a1 == a1) && (((a2 == a2) && ((a3 == a3) && ((a4 == a4) && ((a5 == a5) && ((a6 == a6) && true))))) && ((0 == a7) && ((a8 == a8) && ((a9 == a9) && ((a10 == a10) && true)))))))) (req true (req true (200 = y))) (rqn 4 (br (!a1) (rqn 3 (∃ y4 : Bool, (next_Ever_R a2 a3 a4 a5 a6 y4) ∧ (rqn 3 (br (!y4) (req true (req true (201 = y))) (req true (req true (0 = y))))))) (rqn 3 (req true (0 = y))))))))))) (rqn 8 (req true (200 = y))))))))) (rqn 4 (br a1 (rqn 14 (req true (200 = y))) (rqn 11 (req true (200 = y))))))) := by kernel_rfl
theorem q33_run (a0 : Int) (a1 : Bool) (a2 : Int) (a3 : Int) (a4 : Int) (a5 : Int) (a6 : Int) (a7 : Int) (a8 : Int) (a9 : Int) (a10 : Int) (y : Int) (h : job_Check_R a0 a1 a2 a3 a4 a5 a6 a7 a8 a9 a10 y) : acall q33_cx okT lpT 60 (.fn 33 [] []) [(V.agg [(V.int .u32 a0), (V.bool a1), (V.int .u64 a2), (V.int .u64 a3), (V.int .u64 a4), (V.int .u64 a5), (V.int .u64 a6), (V.int .i64 a7), (V.int .i64 a8), (V.int .i64 a9), (V.int .i64 a10)])] [] (leafK (.int .i64) y) := by
  refine cast (q33_tree a0 a1 a2 a3 a4 a5 a6 a7 a8 a9 a10 y).symm ?_
  unfold job_Check_R at h
  refine rqn_intro 6 ?_
  refine br_both h (fun hb h => ?_) (fun hb h => ?_)
  ·refine rqn_intro 7 ?_
   refine ex_both h fun y1 h => ?_
   refine rqn_intro 4 ?_
   refine br_both h (fun hb h => ?_) (fun hb h => ?_)
   ·refine rqn_intro 4 ?_
    refine br_both h (fun hb h => ?_) (fun hb h => ?_)
    ·refine rqn_intro 5 ?_
     refine br_both h (fun hb h => ?_) (fun hb h => ?_)
     ·refine rqn_intro 8 ?_
      refine br_both h (fun hb h => ?_) (fun hb h => ?_)
      ·refine rqn_intro 3 ?_
       exact req_intro rfl h
      ·refine rqn_intro 5 ?_
       refine br_both h (fun hb h => ?_) (fun hb h => ?_)
       ·refine req_intro rfl ?_
        exact req_intro rfl h
       ·refine rqn_intro 4 ?_
        refine br_both h (fun hb h => ?_) (fun hb h => ?_)
        ·refine rqn_intro 3 ?_
         refine ex_both h fun y2 h => ?_
         refine rqn_intro 3 ?_
         refine br_both h (fun hb h => ?_) (fun hb h => ?_)
         ·refine req_intro rfl ?_
          exact req_intro rfl h
         ·refine req_intro rfl ?_
          exact req_intro rfl h
        ·refine rqn_intro 3 ?_
         exact req_intro rfl h
     ·refine rqn_intro 8 ?_
      exact req_intro rfl h
    ·refine rqn_intro 10 ?_
     exact req_intro rfl h
   ·refine rqn_intro 3 ?_
    refine br_both h (fun hb h => ?_) (fun hb h => ?_)
    ·refine rqn_intro 3 ?_
     refine ex_both h fun y3 h => ?_
     refine rqn_intro 6 ?_
     refine br_both h (fun hb h => ?_) (fun hb h => ?_)
     ·refine rqn_intro 3 ?_
      exact req_intro rfl h
     ·refine rqn_intro 5 ?_
      refine br_both h (fun hb h => ?_) (fun hb h => ?_)
      ·refine req_intro rfl ?_
       exact req_intro rfl h
      ·refine rqn_intro 4 ?_
       refine br_both h (fun hb h => ?_) (fun hb h => ?_)
       ·refine rqn_intro 3 ?_
        refine ex_both h fun y4 h => ?_
        refine rqn_intro 3 ?_
        refine br_both h (fun hb h => ?_) (fun hb h => ?_)
        ·refine req_intro rfl ?_
         exact req_intro rfl h
        ·refine req_intro rfl ?_
         exact req_intro rfl h
       ·refine rqn_intro 3 ?_
        exact req_intro rfl h
    ·refine rqn_intro 8 ?_
     exact req_intro rfl h
  ·refine rqn_intro 4 ?_
   refine br_both h (fun hb h => ?_) (fun hb h => ?_)
   ·refine rqn_intro 14 ?_
    exact req_intro rfl h
   ·refine rqn_intro 11 ?_
    exact req_intro rfl h
theorem job_Check_ok : FxOk Tryd.prog gsT 33 (.one (.agg (.cons (.int .u32) (.cons .bool (.cons (.int .u64) (.cons (.int .u64) (.cons (.int .u64) (.cons (.int .u64) (.cons (.int .u64) (.cons (.int .i64) (.cons (.int .i64) (.cons (.int .i64) (.one (.int .i64)))))))))))))) (.int .i64) fun x y => job_Check_R (x.1) (x.2.1) (x.2.2.1) (x.2.2.2.1) (x.2.2.2.2.1) (x.2.2.2.2.2.1) (x.2.2.2.2.2.2.1) (x.2.2.2.2.2.2.2.1) (x.2.2.2.2.2.2.2.2.1) (x.2.2.2.2.2.2.2.2.2.1) (x.2.2.2.2.2.2.2.2.2.2) y := fx_of (c := q33_cx) (ty_ok rfl) (eq_ok rfl) q33_fns follows_ok (ok := okT) (lp := lpT) (n := 60) lp_ok (enters Tryd.func33 (by kernel_rfl) rfl) (fun y => ⟨_, rfl⟩) fun x y h => q33_run _ _ _ _ _ _ _ _ _ _ _ y h
noncomputable def q56_cx : Cx := ⟨tyT, [(56, .body Tryd.f56)], gsT, eqT⟩
theorem q56_fns : FnsOk Tryd.prog q56_cx := Fns_assoc ⟨body_ent Tryd.func56 (by kernel_rfl) (by kernel_rfl), trivial⟩
def table_line_R (a0 : Int) (a1 : Bool) (a2 : Int) (a3 : Int) (a4 : Int) (a5 : Int) (a6 : Int) (a7 : Int) (a8 : Int) (a9 : Int) (a10 : Int) (a11 : Bool) (a12 : Int) (a13 : Int) (a14 : Int) (a15 : Int) (a16 : List Int) (y : List Int) : Prop :=
  (br (decide (a13 > 0)) (req (Nat.ble ((List.length ([a14] ++ a16)) * 9) 140737488355328) (br (a12 != (-1)) (req (Nat.ble ((List.length (([a14] ++ a16) ++ [a12])) * 9) 140737488355328) ((([a14] ++ a16) ++ [a12]) = y)) (([a14] ++ a16) = y))) (req (Nat.ble ((List.length a16) * 9) 140737488355328) (br (a12 != (-1)) (req (Nat.ble ((List.length (a16 ++ [a12])) * 9) 140737488355328) ((a16 ++ [a12]) = y)) (a16 = y))))
theorem q56_tree (a0 : Int) (a1 : Bool) (a2 : Int) (a3 : Int) (a4 : Int) (a5 : Int) (a6 : Int) (a7 : Int) (a8 : Int) (a9 : Int) (a10 : Int) (a11 : Bool) (a12 : Int) (a13 : Int) (a14 : Int) (a15 : Int) (a16 : List Int) (y : List Int) : acall q56_cx okT lpT 60 (.fn 56 [] []) [(V.agg [(V.int .u32 a0), (V.bool a1), (V.int .u64 a2), (V.int .u64 a3), (V.int .u64 a4), (V.int .u64 a5), (V.int .u64 a6), (V.int .i64 a7), (V.int .i64 a8), (V.int .i64 a9), (V.int .i64 a10), (V.bool a11), (V.int .i64 a12), (V.int .u64 a13), (V.int .i64 a14), (V.int .i64 a15), (V.sl (.int .i64) a16 none)])] [] (leafK (.nw (.int .i64) 2) y) =
    (rqn 6 (br (decide (a13 > 0)) (rqn 5 (∀ c1 : Nat, Nat.ble 1 c1 = true → (rqn 4 (req (((true && true) && (Nat.beq c1 c1)) && (Nat.ble ((List.length ([a14] ++ a16)) * 9) 140737488355328)) (∀ c2 : Nat, Nat.ble (List.length ([a14] ++ a16)) c2 = true → (rqn 4 (br (a12 != (-1)) (rqn 3 (req (((((true && true) && true) && (Nat.beq (List.length ([a14] ++ a16)) (List.length ([a14] ++ a16)))) && (Nat.beq c2 c2)) && (Nat.ble ((List.length (([a14] ++ a16) ++ [a12])) * 9) 140737488355328)) (∀ c3 : Nat, Nat.ble (List.length (([a14] ++ a16) ++ [a12])) c3 = true → (rqn 3 (req (true && ((Nat.beq (List.length (([a14] ++ a16) ++ [a12])) (List.length (([a14] ++ a16) ++ [a12]))) && (Nat.beq c3 c3))) ((([a14] ++ a16) ++ [a12]) = y)))))) (rqn 2 (req (true && ((Nat.beq (List.length ([a14] ++ a16)) (List.length ([a14] ++ a16))) && (Nat.beq c2 c2))) (([a14] ++ a16) = y)))))))))) (rqn 3 (req (true && (Nat.ble ((List.length a16) * 9) 140737488355328)) (∀ c4 : Nat, Nat.ble (List.length a16) c4 = true → (rqn 4 (br (a12 != (-1)) (rqn 3 (req (((((true && true) && true) && (Nat.beq (List.length a16) (List.length a16))) && (Nat.beq c4 c4)) && (Nat.ble ((List.length (a16 ++ [a12])) * 9) 140737488355328)) (∀ c5 : Nat, Nat.ble (List.length (a16 ++ [a12])) c5 = true → (rqn 3 (req (true && ((Nat.beq (List.length (a16 ++ [a12])) (List.length (a16 ++ [a12]))) && (Nat.beq c5 c5))) ((a16 ++ [a12]) = y)))))) (rqn 2 (req (true && ((Nat.beq (List.length a16) (List.length a16)) && (Nat.beq c4 c4))) (a16 = y)))))))))) := by kernel_rfl
theorem q56_run (a0 : Int) (a1 : Bool) (a2 : Int) (a3 : Int) (a4 : Int) (a5 : Int) (a6 : Int) (a7 : Int) (a8 : Int) (a9 : Int) (a10 : Int) (a11 : Bool) (a12 : Int) (a13 : Int) (a14 : Int) (a15 : Int) (a16 : List Int) (y : List Int) (h : table_line_R a0 a1 a2 a3 a4 a5 a6 a7 a8 a9 a10 a11 a12 a13 a14 a15 a16 y) : acall q56_cx okT lpT 60 (.fn 56 [] []) [(V.agg [(V.int .u32 a0), (V.bool a1), (V.int .u64 a2), (V.int .u64 a3), (V.int .u64 a4), (V.int .u64 a5), (V.int .u64 a6), (V.int .i64 a7), (V.int .i64 a8), (V.int .i64 a9), (V.int .i64 a10), (V.bool a11), (V.int .i64 a12), (V.int .u64 a13), (V.int .i64 a14), (V.int .i64 a15), (V.sl (.int .i64) a16 none)])] [] (leafK (.nw (.int .i64) 2) y) := by
  refine cast (q56_tree a0 a1 a2 a3 a4 a5 a6 a7 a8 a9 a10 a11 a12 a13 a14 a15 a16 y).symm ?_
  unfold table_line_R at h
  refine rqn_intro 6 ?_
  refine br_both h (fun hb h => ?_) (fun hb h => ?_)
  ·refine rqn_intro 5 ?_
   intro c1 hc1
   refine rqn_intro 4 ?_
   obtain ⟨q, h⟩ := req_of h
   refine req_intro (band (band (band rfl rfl) (Nat.beq_refl _)) q) ?_
   intro c2 hc2
   refine rqn_intro 4 ?_
   refine br_both h (fun hb h => ?_) (fun hb h => ?_)
   ·refine rqn_intro 3 ?_
    obtain ⟨q, h⟩ := req_of h
    refine req_intro (band (band (band (band (band rfl rfl) rfl) (Nat.beq_refl _)) (Nat.beq_refl _)) q) ?_
    intro c3 hc3
    refine rqn_intro 3 ?_
    exact req_intro (band rfl (band (Nat.beq_refl _) (Nat.beq_refl _))) h
   ·refine rqn_intro 2 ?_
    exact req_intro (band rfl (band (Nat.beq_refl _) (Nat.beq_refl _))) h
  ·refine rqn_intro 3 ?_
   obtain ⟨q, h⟩ := req_of h
   refine req_intro (band rfl q) ?_
   intro c4 hc4
   refine rqn_intro 4 ?_
   refine br_both h (fun hb h => ?_) (fun hb h => ?_)
   ·refine rqn_intro 3 ?_
    obtain ⟨q, h⟩ := req_of h
    refine req_intro (band (band (band (band (band rfl rfl) rfl) (Nat.beq_refl _)) (Nat.beq_refl _)) q) ?_
    intro c5 hc5
    refine rqn_intro 3 ?_
    exact req_intro (band rfl (band (Nat.beq_refl _) (Nat.beq_refl _))) h
   ·refine rqn_intro 2 ?_
    exact req_intro (band rfl (band (Nat.beq_refl _) (Nat.beq_refl _))) h
theorem table_line_ok : FxOk Tryd.prog gsT 56 (.one (.agg (.cons (.int .u32) (.cons .bool (.cons (.int .u64) (.cons (.int .u64) (.cons (.int .u64) (.cons (.int .u64) (.cons (.int .u64) (.cons (.int .i64) (.cons (.int .i64) (.cons (.int .i64) (.cons (.int .i64) (.cons .bool (.cons (.int .i64) (.cons (.int .u64) (.cons (.int .i64) (.cons (.int .i64) (.one (.sl (.int .i64))))))))))))))))))))) (.nw (.int .i64) 2) fun x y => table_line_R (x.1) (x.2.1) (x.2.2.1) (x.2.2.2.1) (x.2.2.2.2.1) (x.2.2.2.2.2.1) (x.2.2.2.2.2.2.1) (x.2.2.2.2.2.2.2.1) (x.2.2.2.2.2.2.2.2.1) (x.2.2.2.2.2.2.2.2.2.1) (x.2.2.2.2.2.2.2.2.2.2.1) (x.2.2.2.2.2.2.2.2.2.2.2.1) (x.2.2.2.2.2.2.2.2.2.2.2.2.1) (x.2.2.2.2.2.2.2.2.2.2.2.2.2.1) (x.2.2.2.2.2.2.2.2.2.2.2.2.2.2.1) (x.2.2.2.2.2.2.2.2.2.2.2.2.2.2.2.1) (x.2.2.2.2.2.2.2.2.2.2.2.2.2.2.2.2) y := fx_of (c := q56_cx) (ty_ok rfl) (eq_ok rfl) q56_fns follows_ok (ok := okT) (lp := lpT) (n := 60) lp_ok (enters Tryd.func56 (by kernel_rfl) rfl) (fun y => ⟨_, rfl⟩) fun x y h => q56_run _ _ _ _ _ _ _ _ _ _ _ _ _ _ _ _ _ y h
noncomputable def q57_cx : Cx := ⟨tyT, [(57, .body Tryd.f57)], gsT, eqT⟩
theorem q57_fns : FnsOk Tryd.prog q57_cx := Fns_assoc ⟨body_ent Tryd.func57 (by kernel_rfl) (by kernel_rfl), trivial⟩
noncomputable def q57_0_body : Code := subC [1, 0, 1, 0, 0] (bodyOf Tryd.f57)
abbrev table_rise_l0_Z : Type := List Int × Int
abbrev table_rise_l0_Y : Type := (Unit) ⊕ (Unit)
abbrev q57_0_C : Type := Unit
abbrev q57_0_Q : Type := Unit
noncomputable def q57_0_st (z1 : table_rise_l0_Z) (z1q : q57_0_Q) (z1c : q57_0_C) : S := ⟨[(0, (V.sl (.int .i64) (z1.1) none)), (3, (vi (z1.2)))], [], []⟩
def q57_0_Kp (K : Ret → S → Prop) (z1q : q57_0_Q) (y2 : table_rise_l0_Y) : Prop := sume (fun y2 => K .ret ⟨[(2, (vb false))], [], []⟩) (fun y2 => K (.exit 0) ⟨[], [], []⟩) y2
def q57_0_K (K : Ret → S → Prop) (z1 : table_rise_l0_Z) (z1q : q57_0_Q) (y2 : table_rise_l0_Y) : Prop := q57_0_Kp K z1q y2
def table_rise_l0 : Nat → table_rise_l0_Z → table_rise_l0_Y → Prop
  | 0, _, _ => False
  | k + 1, (z1x0, z1x1), y2_ => (br (decide (z1x1 < (((List.length z1x0) : Nat) : Int))) (req ((decide (0 ≤ (IntKind.wrap .i64 (z1x1 - 1)))) && (decide ((IntKind.wrap .i64 (z1x1 - 1)) < (((List.length z1x0) : Nat) : Int)))) (req ((decide (0 ≤ z1x1)) && (decide (z1x1 < (((List.length z1x0) : Nat) : Int)))) (br (decide ((List.getD z1x0 (Int.toNat (IntKind.wrap .i64 (z1x1 - 1))) 0) ≥ (List.getD z1x0 (Int.toNat z1x1) 0))) ((Sum.inl ()) = y2_) (table_rise_l0 k (z1x0, (IntKind.wrap .i64 (z1x1 + 1))) y2_)))) ((Sum.inr ()) = y2_))
def table_rise_l0_L (z : table_rise_l0_Z) (y : table_rise_l0_Y) : Prop := ∃ k, table_rise_l0 k z y
noncomputable def q57_0_lp : Lp := .auto none q57_0_body (loopG 0 q57_0_st (fun z y => ∃ k, table_rise_l0 k z y) q57_0_K)
noncomputable def q57_lp : Nat → FuncId → Nat → Nat → Lp := lpTab [(57, 2, 0, 0, q57_0_lp)]
theorem q57_0_round (n : Nat) (z1x0 : List Int) (z1x1 : Int) (K : Ret → S → Prop) (next : S → Prop) : acode q57_cx 57 (acall q57_cx okT q57_lp (n + 0)) (okT 57) (q57_lp (n + 0) 57) none q57_0_body (iterK (wkK 0 K) next) (q57_0_st (z1x0, z1x1) () ()) =
    (rqn 4 (br (decide (z1x1 < (((List.length z1x0) : Nat) : Int))) (rqn 4 (req ((decide (0 ≤ (wI (z1x1 - 1)))) && (decide ((wI (z1x1 - 1)) < (((List.length z1x0) : Nat) : Int)))) (rqn 3 (req ((decide (0 ≤ z1x1)) && (decide (z1x1 < (((List.length z1x0) : Nat) : Int)))) (rqn 2 (br (decide ((List.getD z1x0 (Int.toNat (wI (z1x1 - 1))) 0) ≥ (List.getD z1x0 (Int.toNat z1x1) 0))) (req true (wkK 0 K .ret ⟨[(0, (V.sl (.int .i64) z1x0 none)), (3, (vi z1x1)), (7, (vb (decide (z1x1 < (((List.length z1x0) : Nat) : Int))))), (19, (vb (decide ((List.getD z1x0 (Int.toNat (wI (z1x1 - 1))) 0) ≥ (List.getD z1x0 (Int.toNat z1x1) 0))))), (2, (vb false))], [], []⟩)) (rqn 3 (next ⟨[(0, (V.sl (.int .i64) z1x0 none)), (3, (vi (wI (z1x1 + 1)))), (7, (vb (decide (z1x1 < (((List.length z1x0) : Nat) : Int))))), (19, (vb (decide ((List.getD z1x0 (Int.toNat (wI (z1x1 - 1))) 0) ≥ (List.getD z1x0 (Int.toNat z1x1) 0)))))], [], []⟩)))))))) (wkK 0 K (.exit 0) ⟨[(0, (V.sl (.int .i64) z1x0 none)), (3, (vi z1x1)), (7, (vb (decide (z1x1 < (((List.length z1x0) : Nat) : Int)))))], [], []⟩))) := by kernel_rfl
theorem q57_0_step (n k : Nat) (z1x0 : List Int) (z1x1 : Int) (y2_ : table_rise_l0_Y) (K : Ret → S → Prop) (h : table_rise_l0 (k + 1) (z1x0, z1x1) y2_) (hK : q57_0_Kp K () y2_) (next : S → Prop) (hnext : ∀ z' s', table_rise_l0 k z' y2_ → q57_0_K K z' () y2_ → (∃ cc', wk 0 s' (q57_0_st z' () cc')) → next s') : acode q57_cx 57 (acall q57_cx okT q57_lp (n + 0)) (okT 57) (q57_lp (n + 0) 57) none q57_0_body (iterK (wkK 0 K) next) (q57_0_st (z1x0, z1x1) () ()) := by
  refine cast (q57_0_round n z1x0 z1x1 K next).symm ?_
  simp only [table_rise_l0] at h
  refine rqn_intro 4 ?_
  refine br_both h (fun hb h => ?_) (fun hb h => ?_)
  ·refine rqn_intro 4 ?_
   obtain ⟨q, h⟩ := req_of h
   refine req_intro (band (band_l q) (band_r q)) ?_
   refine rqn_intro 3 ?_
   obtain ⟨q, h⟩ := req_of h
   refine req_intro (band (band_l q) (band_r q)) ?_
   refine rqn_intro 2 ?_
   refine br_both h (fun hb h => ?_) (fun hb h => ?_)
   ·refine req_intro rfl ?_
    subst h
    refine ⟨_, ?_, hK⟩
    exact wk_of (Or.inr ⟨⟨Or.inl rfl, trivial⟩, trivial, rfl, rfl, rfl⟩)
   ·refine rqn_intro 3 ?_
    exact hnext (z1x0, (wI (z1x1 + 1))) _ h hK ⟨(), wk_of (Or.inr ⟨⟨Or.inl rfl, Or.inl rfl, trivial⟩, trivial, rfl, rfl, rfl⟩)⟩
  ·subst h
   refine ⟨_, ?_, hK⟩
   exact wk_of (Or.inr ⟨trivial, trivial, rfl, rfl, rfl⟩)
theorem q57_0_ok (n : Nat) : Owed q57_cx okT 57 q57_lp (n + 0) q57_0_lp := loop_owed (fun z y h => h) fun k zz qq cc yy K h hK next hnext => q57_0_step n k zz.1 zz.2 yy K h hK next hnext
theorem q57_lpok : LpOk q57_cx okT q57_lp := LpOk_tab ⟨q57_0_ok, trivial⟩
def table_rise_R (a0 : List Int) (y : Bool) : Prop :=
  (∃ y4 : table_rise_l0_Y, table_rise_l0_L (a0, 1) y4 ∧ sume (fun y4 => (false = y)) (fun y4 => (true = y)) y4)
theorem q57_tree (a0 : List Int) (y : Bool) : acall q57_cx okT q57_lp 60 (.fn 57 [] []) [(V.sl (.int .i64) a0 none)] [] (leafK .bool y) =
    (rqn 2 (((none : Option Nat) = (none : Option Nat)) ∧ (q57_0_body = q57_0_body) ∧ ∃ z3 : table_rise_l0_Z, ∃ z3q : q57_0_Q, ∃ y4 : table_rise_l0_Y, (0 = 0) ∧ (∃ zc : q57_0_C, wk 0 ⟨[(0, (V.sl (.int .i64) a0 none)), (2, (vb false)), (3, (vi 1))], [], []⟩ (q57_0_st z3 z3q zc)) ∧ (∃ k, table_rise_l0 k z3 y4) ∧ sume (fun y4 => (req true (false = y))) (fun y4 => (req true (req true (true = y)))) y4)) := by kernel_rfl
theorem q57_run (a0 : List Int) (y : Bool) (h : table_rise_R a0 y) : acall q57_cx okT q57_lp 60 (.fn 57 [] []) [(V.sl (.int .i64) a0 none)] [] (leafK .bool y) := by
  refine cast (q57_tree a0 y).symm ?_
  unfold table_rise_R at h
  refine rqn_intro 2 ?_
  obtain ⟨y4, ry4, h⟩ := h
  refine ⟨rfl, rfl, (a0, 1), (), y4, rfl, ⟨(), wk_of (Or.inr ⟨⟨Or.inl rfl, Or.inl rfl, trivial⟩, trivial, rfl, rfl, rfl⟩)⟩, ry4, ?_⟩
  refine sume_both h (fun y4 h => ?_) (fun y4 h => ?_)
  ·exact req_intro rfl h
  ·refine req_intro rfl ?_
   exact req_intro rfl h
theorem table_rise_ok : FxOk Tryd.prog gsT 57 (.one (.sl (.int .i64))) .bool fun x y => table_rise_R x y := fx_of (c := q57_cx) (ty_ok rfl) (eq_ok rfl) q57_fns follows_ok (ok := okT) (lp := q57_lp) (n := 60) q57_lpok (enters Tryd.func57 (by kernel_rfl) rfl) (fun y => ⟨_, rfl⟩) fun x y h => q57_run _ y h
noncomputable def q58_cx : Cx := ⟨tyT, [(58, .body Tryd.f58)], gsT, eqT⟩
theorem q58_fns : FnsOk Tryd.prog q58_cx := Fns_assoc ⟨body_ent Tryd.func58 (by kernel_rfl) (by kernel_rfl), trivial⟩
def times_May_R (a0 : Int) (y : Bool) : Prop :=
  (br (decide (a0 ≥ 0)) ((decide (a0 ≤ 253402300799)) = y) (false = y))
theorem q58_tree (a0 : Int) (y : Bool) : acall q58_cx okT lpT 60 (.fn 58 [] []) [(V.int .i64 a0)] [] (leafK .bool y) =
    (rqn 4 (br (decide (a0 ≥ 0)) (rqn 4 (req true ((decide (a0 ≤ 253402300799)) = y))) (rqn 2 (req true (false = y))))) := by kernel_rfl
theorem q58_run (a0 : Int) (y : Bool) (h : times_May_R a0 y) : acall q58_cx okT lpT 60 (.fn 58 [] []) [(V.int .i64 a0)] [] (leafK .bool y) := by
  refine cast (q58_tree a0 y).symm ?_
  unfold times_May_R at h
  refine rqn_intro 4 ?_
  refine br_both h (fun hb h => ?_) (fun hb h => ?_)
  ·refine rqn_intro 4 ?_
   exact req_intro rfl h
  ·refine rqn_intro 2 ?_
   exact req_intro rfl h
theorem times_May_ok : FxOk Tryd.prog gsT 58 (.one (.int .i64)) .bool fun x y => times_May_R x y := fx_of (c := q58_cx) (ty_ok rfl) (eq_ok rfl) q58_fns follows_ok (ok := okT) (lp := lpT) (n := 60) lp_ok (enters Tryd.func58 (by kernel_rfl) rfl) (fun y => ⟨_, rfl⟩) fun x y h => q58_run _ y h
noncomputable def q18_cx : Cx := ⟨tyT, [(18, .body Tryd.f18),
  (23, .fx (.one (.agg (.cons (.int .u64) (.cons (.int .u64) (.cons (.int .u64) (.cons (.int .u64) (.one (.int .u64)))))))) (.int .i64) fun x y => cron_Check_R (x.1) (x.2.1) (x.2.2.1) (x.2.2.2.1) (x.2.2.2.2) y),
  (39, .body Tryd.f39),
  (40, .fx (.one (.int .i64)) (.int .i64) fun x y => next_of_R x y),
  (42, .body Tryd.f42),
  (52, .fx (.cons (.agg (.cons (.int .u64) (.cons (.int .u64) (.cons (.int .u64) (.cons (.int .u64) (.one (.int .u64))))))) (.one (.agg (.cons (.int .i64) (.cons (.int .i64) (.one (.int .i64))))))) .bool fun x y => cron_Day_R (x.1.1) (x.1.2.1) (x.1.2.2.1) (x.1.2.2.2.1) (x.1.2.2.2.2) (x.2.1) (x.2.2.1) (x.2.2.2) y),
  (76, .body Tryd.f76),
  (77, .body Tryd.f77),
  (84, .fx (.one (.int .i64)) (.tup (.cons (.agg (.cons (.int .i64) (.cons (.int .i64) (.one (.int .i64))))) (.one (.int .i64)))) fun x y => days_At_R x y),
  (105, .body Tryd.f105),
  (106, .body Tryd.f106),
  (107, .body Tryd.f107),
  (127, .body Tryd.f127),
  (128, .fx (.one (.int .u64)) (.nw (.int .i64) 3) fun x y => mask_All_R x y)], gsT, eqT⟩
theorem q18_fns : FnsOk Tryd.prog q18_cx := Fns_assoc ⟨body_ent Tryd.func18 (by kernel_rfl) (by kernel_rfl), cron_Check_ok, body_ent Tryd.func39 (by kernel_rfl) (by kernel_rfl), next_of_ok, body_ent Tryd.func42 (by kernel_rfl) (by kernel_rfl), cron_Day_ok, body_ent Tryd.func76 (by kernel_rfl) (by kernel_rfl), body_ent Tryd.func77 (by kernel_rfl) (by kernel_rfl), days_At_ok, body_ent Tryd.func105 (by kernel_rfl) (by kernel_rfl), body_ent Tryd.func106 (by kernel_rfl) (by kernel_rfl), body_ent Tryd.func107 (by kernel_rfl) (by kernel_rfl), body_ent Tryd.func127 (by kernel_rfl) (by kernel_rfl), mask_All_ok, trivial⟩
noncomputable def q18_0_body : Code := subC [1, 1, 0, 0] (bodyOf Tryd.f127)
abbrev next_Last_l0_Z : Type := List Int × List Int × Int × Int × Int × Int × Int × Int × Int × Int × Int × Int
abbrev next_Last_l0_Y : Type := (Int) ⊕ (Unit)
abbrev q18_0_C : Type := Unit
abbrev q18_0_Q : Type := Nat × Nat
noncomputable def q18_0_st (z13 : next_Last_l0_Z) (z13q : q18_0_Q) (z13c : q18_0_C) : S := ⟨[(0, (V.yld 21)), (2, (V.ptr 20 0)), (4, (V.row 22 1 (List.length (z13.2.1)) (z13q.2))), (9, (vi (z13.2.2.2.2.2.2.2.2.2.2.1))), (10, (vi (z13.2.2.2.2.2.2.2.2.2.2.2)))], [(Blk.cells [(vu (z13.2.2.1)), (vu (z13.2.2.2.1)), (vu (z13.2.2.2.2.1)), (vu (z13.2.2.2.2.2.1)), (vu (z13.2.2.2.2.2.2.1))]), (Blk.cells [(vi (z13.2.2.2.2.2.2.2.1))]), (Blk.cells [(vu (z13.2.2.1)), (vu (z13.2.2.2.1)), (vu (z13.2.2.2.2.1)), (vu (z13.2.2.2.2.2.1)), (vu (z13.2.2.2.2.2.2.1))]), (Blk.cells [(V.fn 42 [] [(V.ptr 1 0)])]), (Blk.cells [(vi 0)]), (Blk.cells [(vb false)]), (Blk.cells [(vu (z13.2.2.1)), (vu (z13.2.2.2.1)), (vu (z13.2.2.2.2.1)), (vu (z13.2.2.2.2.2.1)), (vu (z13.2.2.2.2.2.2.1))]), (Blk.cells [(vu (z13.2.2.1)), (vu (z13.2.2.2.1)), (vu (z13.2.2.2.2.1)), (vu (z13.2.2.2.2.2.1)), (vu (z13.2.2.2.2.2.2.1))]), (Blk.cells [(vi (z13.2.2.2.2.2.2.2.2.1))]), (Blk.cells [(vb true)]), Blk.dfr, (Blk.loop .ready none ⟨39, [37], (subC [1, 0, 1, 1, 1, 0, 1, 0, 0, 1, 1, 0, 0, 1, 1, 1, 1, 1, 0, 0] (bodyOf Tryd.f39)), (subC [1, 0, 1, 1, 1, 0, 1, 0, 0, 1, 1, 0, 0, 1, 1, 1, 1, 1, 0, 1] (bodyOf Tryd.f39)), [(7, (V.ptr 3 0)), (8, (V.ptr 4 0)), (9, (V.ptr 5 0))], 10⟩), (Blk.cells [(V.yld 11)]), (Blk.cells [(vu (z13.2.2.2.1))]), (Blk.cells [(vb true)]), Blk.dfr, (Blk.loop .busy none ⟨106, [11], (subC [1, 1, 0, 0] (bodyOf Tryd.f106)), (subC [1, 1, 0, 1] (bodyOf Tryd.f106)), [(1, (V.ptr 7 0)), (2, (V.ptr 9 0)), (3, (V.ptr 8 0)), (4, (V.ptr 12 0))], 15⟩), (Blk.row (.int .i64) (z13.1) 3 (z13q.1)), (Blk.cells [(vi (z13.2.2.2.2.2.2.2.2.2.1))]), (Blk.cells [(vu (z13.2.2.1))]), (Blk.cells [(vb true)]), (Blk.loop .ready none ⟨106, [16], (subC [1, 1, 0, 1, 0, 1, 0, 0] (bodyOf Tryd.f106)), (subC [1, 1, 0, 1, 0, 1, 0, 1] (bodyOf Tryd.f106)), [(3, (V.ptr 8 0)), (4, (V.ptr 12 0)), (5, (V.ptr 18 0))], 15⟩), (Blk.row (.int .i64) (z13.2.1) 3 (z13q.2))], []⟩
def q18_0_Kp (K : Ret → S → Prop) (z13x0 : List Int) (z13x2 : Int) (z13x3 : Int) (z13x4 : Int) (z13x5 : Int) (z13x6 : Int) (z13x7 : Int) (z13x8 : Int) (z13x9 : Int) (z13q : q18_0_Q) (y14 : next_Last_l0_Y) : Prop := sume (fun y14 => K .ret ⟨[], [(Blk.cells [(vu z13x2), (vu z13x3), (vu z13x4), (vu z13x5), (vu z13x6)]), (Blk.cells [(vi z13x7)]), (Blk.cells [(vu z13x2), (vu z13x3), (vu z13x4), (vu z13x5), (vu z13x6)]), (Blk.cells [(V.fn 42 [] [(V.ptr 1 0)])]), (Blk.cells [(vi y14)]), (Blk.cells [(vb true)]), (Blk.cells [(vu z13x2), (vu z13x3), (vu z13x4), (vu z13x5), (vu z13x6)]), (Blk.cells [(vu z13x2), (vu z13x3), (vu z13x4), (vu z13x5), (vu z13x6)]), (Blk.cells [(vi z13x8)]), (Blk.cells [(vb true)]), Blk.dfr, (Blk.loop .done (some (.exit 0)) ⟨39, [37], (subC [1, 0, 1, 1, 1, 0, 1, 0, 0, 1, 1, 0, 0, 1, 1, 1, 1, 1, 0, 0] (bodyOf Tryd.f39)), (subC [1, 0, 1, 1, 1, 0, 1, 0, 0, 1, 1, 0, 0, 1, 1, 1, 1, 1, 0, 1] (bodyOf Tryd.f39)), [(7, (V.ptr 3 0)), (8, (V.ptr 4 0)), (9, (V.ptr 5 0))], 10⟩), (Blk.cells [(V.yld 11)]), (Blk.cells [(vu z13x3)]), (Blk.cells [(vb true)]), Blk.dfr, (Blk.loop .busy none ⟨106, [11], (subC [1, 1, 0, 0] (bodyOf Tryd.f106)), (subC [1, 1, 0, 1] (bodyOf Tryd.f106)), [(1, (V.ptr 7 0)), (2, (V.ptr 9 0)), (3, (V.ptr 8 0)), (4, (V.ptr 12 0))], 15⟩), (Blk.row (.int .i64) z13x0 3 (z13q.1)), (Blk.cells [(vi z13x9)]), (Blk.cells [(vu z13x2)]), (Blk.cells [(vb true)]), (Blk.loop .done (some .ret) ⟨106, [16], (subC [1, 1, 0, 1, 0, 1, 0, 0] (bodyOf Tryd.f106)), (subC [1, 1, 0, 1, 0, 1, 0, 1] (bodyOf Tryd.f106)), [(3, (V.ptr 8 0)), (4, (V.ptr 12 0)), (5, (V.ptr 18 0))], 15⟩), Blk.dead], []⟩) (fun y14 => K (.exit 0) ⟨[], [(Blk.cells [(vu z13x2), (vu z13x3), (vu z13x4), (vu z13x5), (vu z13x6)]), (Blk.cells [(vi z13x7)]), (Blk.cells [(vu z13x2), (vu z13x3), (vu z13x4), (vu z13x5), (vu z13x6)]), (Blk.cells [(V.fn 42 [] [(V.ptr 1 0)])]), (Blk.cells [(vi 0)]), (Blk.cells [(vb false)]), (Blk.cells [(vu z13x2), (vu z13x3), (vu z13x4), (vu z13x5), (vu z13x6)]), (Blk.cells [(vu z13x2), (vu z13x3), (vu z13x4), (vu z13x5), (vu z13x6)]), (Blk.cells [(vi z13x8)]), (Blk.cells [(vb true)]), Blk.dfr, (Blk.loop .ready none ⟨39, [37], (subC [1, 0, 1, 1, 1, 0, 1, 0, 0, 1, 1, 0, 0, 1, 1, 1, 1, 1, 0, 0] (bodyOf Tryd.f39)), (subC [1, 0, 1, 1, 1, 0, 1, 0, 0, 1, 1, 0, 0, 1, 1, 1, 1, 1, 0, 1] (bodyOf Tryd.f39)), [(7, (V.ptr 3 0)), (8, (V.ptr 4 0)), (9, (V.ptr 5 0))], 10⟩), (Blk.cells [(V.yld 11)]), (Blk.cells [(vu z13x3)]), (Blk.cells [(vb true)]), Blk.dfr, (Blk.loop .busy none ⟨106, [11], (subC [1, 1, 0, 0] (bodyOf Tryd.f106)), (subC [1, 1, 0, 1] (bodyOf Tryd.f106)), [(1, (V.ptr 7 0)), (2, (V.ptr 9 0)), (3, (V.ptr 8 0)), (4, (V.ptr 12 0))], 15⟩), (Blk.row (.int .i64) z13x0 3 (z13q.1)), (Blk.cells [(vi z13x9)]), (Blk.cells [(vu z13x2)]), (Blk.cells [(vb true)]), (Blk.loop .ready none ⟨106, [16], (subC [1, 1, 0, 1, 0, 1, 0, 0] (bodyOf Tryd.f106)), (subC [1, 1, 0, 1, 0, 1, 0, 1] (bodyOf Tryd.f106)), [(3, (V.ptr 8 0)), (4, (V.ptr 12 0)), (5, (V.ptr 18 0))], 15⟩), Blk.dead], []⟩) y14
def q18_0_K (K : Ret → S → Prop) (z13 : next_Last_l0_Z) (z13q : q18_0_Q) (y14 : next_Last_l0_Y) : Prop := q18_0_Kp K (z13.1) (z13.2.2.1) (z13.2.2.2.1) (z13.2.2.2.2.1) (z13.2.2.2.2.2.1) (z13.2.2.2.2.2.2.1) (z13.2.2.2.2.2.2.2.1) (z13.2.2.2.2.2.2.2.2.1) (z13.2.2.2.2.2.2.2.2.2.1) z13q y14
def next_Last_l0 : Nat → next_Last_l0_Z → next_Last_l0_Y → Prop
  | 0, _, _ => False
  | k + 1, (z13x0, z13x1, z13x2, z13x3, z13x4, z13x5, z13x6, z13x7, z13x8, z13x9, z13x10, z13x11), y14_ => (br (decide (z13x11 < z13x10)) (req ((decide (0 ≤ (IntKind.wrap .i64 ((IntKind.wrap .i64 ((((List.length z13x1) : Nat) : Int) - 1)) - z13x11)))) && (decide ((IntKind.wrap .i64 ((IntKind.wrap .i64 ((((List.length z13x1) : Nat) : Int) - 1)) - z13x11)) < (((List.length z13x1) : Nat) : Int)))) (req (Nat.blt (Int.toNat (IntKind.wrap .i64 ((IntKind.wrap .i64 ((((List.length z13x1) : Nat) : Int) - 1)) - z13x11))) (List.length z13x1)) (br (decide ((IntKind.wrap .i64 ((IntKind.wrap .i64 ((IntKind.wrap .i64 (z13x8 * 86400)) + (IntKind.wrap .i64 (z13x9 * 3600)))) + (IntKind.wrap .i64 ((List.getD z13x1 (Int.toNat (IntKind.wrap .i64 ((IntKind.wrap .i64 ((((List.length z13x1) : Nat) : Int) - 1)) - z13x11))) 0) * 60)))) ≤ z13x7)) ((Sum.inl (IntKind.wrap .i64 ((IntKind.wrap .i64 ((IntKind.wrap .i64 (z13x8 * 86400)) + (IntKind.wrap .i64 (z13x9 * 3600)))) + (IntKind.wrap .i64 ((List.getD z13x1 (Int.toNat (IntKind.wrap .i64 ((IntKind.wrap .i64 ((((List.length z13x1) : Nat) : Int) - 1)) - z13x11))) 0) * 60))))) = y14_) (next_Last_l0 k (z13x0, z13x1, z13x2, z13x3, z13x4, z13x5, z13x6, z13x7, z13x8, z13x9, z13x10, (IntKind.wrap .i64 (z13x11 + 1))) y14_)))) ((Sum.inr ()) = y14_))
def next_Last_l0_L (z : next_Last_l0_Z) (y : next_Last_l0_Y) : Prop := ∃ k, next_Last_l0 k z y
noncomputable def q18_0_lp : Lp := .auto none q18_0_body (loopG 23 q18_0_st (fun z y => ∃ k, next_Last_l0 k z y) q18_0_K)
noncomputable def q18_1_body : Code := subC [1, 1, 0, 0] (bodyOf Tryd.f127)
abbrev next_Last_l1_Z : Type := List Int × Int × Int × Int × Int × Int × Int × Int × Int × Int
abbrev next_Last_l1_Y : Type := (Int) ⊕ (Unit)
abbrev q18_1_C : Type := Unit
abbrev q18_1_Q : Type := Nat
noncomputable def q18_1_st (z9 : next_Last_l1_Z) (z9q : q18_1_Q) (z9c : q18_1_C) : S := ⟨[(0, (V.yld 16)), (2, (V.ptr 14 0)), (4, (V.row 17 1 (List.length (z9.1)) z9q)), (9, (vi (z9.2.2.2.2.2.2.2.2.1))), (10, (vi (z9.2.2.2.2.2.2.2.2.2)))], [(Blk.cells [(vu (z9.2.1)), (vu (z9.2.2.1)), (vu (z9.2.2.2.1)), (vu (z9.2.2.2.2.1)), (vu (z9.2.2.2.2.2.1))]), (Blk.cells [(vi (z9.2.2.2.2.2.2.1))]), (Blk.cells [(vu (z9.2.1)), (vu (z9.2.2.1)), (vu (z9.2.2.2.1)), (vu (z9.2.2.2.2.1)), (vu (z9.2.2.2.2.2.1))]), (Blk.cells [(V.fn 42 [] [(V.ptr 1 0)])]), (Blk.cells [(vi 0)]), (Blk.cells [(vb false)]), (Blk.cells [(vu (z9.2.1)), (vu (z9.2.2.1)), (vu (z9.2.2.2.1)), (vu (z9.2.2.2.2.1)), (vu (z9.2.2.2.2.2.1))]), (Blk.cells [(vu (z9.2.1)), (vu (z9.2.2.1)), (vu (z9.2.2.2.1)), (vu (z9.2.2.2.2.1)), (vu (z9.2.2.2.2.2.1))]), (Blk.cells [(vi (z9.2.2.2.2.2.2.2.1))]), (Blk.cells [(vb true)]), Blk.dfr, (Blk.loop .ready none ⟨39, [37], (subC [1, 0, 1, 1, 1, 0, 1, 0, 0, 1, 1, 0, 0, 1, 1, 1, 1, 1, 0, 0] (bodyOf Tryd.f39)), (subC [1, 0, 1, 1, 1, 0, 1, 0, 0, 1, 1, 0, 0, 1, 1, 1, 1, 1, 0, 1] (bodyOf Tryd.f39)), [(7, (V.ptr 3 0)), (8, (V.ptr 4 0)), (9, (V.ptr 5 0))], 10⟩), (Blk.cells [(V.yld 11)]), (Blk.cells [(vu (z9.2.2.1))]), (Blk.cells [(vb true)]), Blk.dfr, (Blk.loop .ready none ⟨106, [11], (subC [1, 1, 0, 0] (bodyOf Tryd.f106)), (subC [1, 1, 0, 1] (bodyOf Tryd.f106)), [(1, (V.ptr 7 0)), (2, (V.ptr 9 0)), (3, (V.ptr 8 0)), (4, (V.ptr 12 0))], 15⟩), (Blk.row (.int .i64) (z9.1) 3 z9q)], []⟩
def q18_1_Kp (K : Ret → S → Prop) (z9x1 : Int) (z9x2 : Int) (z9x3 : Int) (z9x4 : Int) (z9x5 : Int) (z9x6 : Int) (z9x7 : Int) (z9q : q18_1_Q) (y10 : next_Last_l1_Y) : Prop := sume (fun y10 => K .ret ⟨[], [(Blk.cells [(vu z9x1), (vu z9x2), (vu z9x3), (vu z9x4), (vu z9x5)]), (Blk.cells [(vi z9x6)]), (Blk.cells [(vu z9x1), (vu z9x2), (vu z9x3), (vu z9x4), (vu z9x5)]), (Blk.cells [(V.fn 42 [] [(V.ptr 1 0)])]), (Blk.cells [(vi y10)]), (Blk.cells [(vb true)]), (Blk.cells [(vu z9x1), (vu z9x2), (vu z9x3), (vu z9x4), (vu z9x5)]), (Blk.cells [(vu z9x1), (vu z9x2), (vu z9x3), (vu z9x4), (vu z9x5)]), (Blk.cells [(vi z9x7)]), (Blk.cells [(vb true)]), Blk.dfr, (Blk.loop .done (some (.exit 0)) ⟨39, [37], (subC [1, 0, 1, 1, 1, 0, 1, 0, 0, 1, 1, 0, 0, 1, 1, 1, 1, 1, 0, 0] (bodyOf Tryd.f39)), (subC [1, 0, 1, 1, 1, 0, 1, 0, 0, 1, 1, 0, 0, 1, 1, 1, 1, 1, 0, 1] (bodyOf Tryd.f39)), [(7, (V.ptr 3 0)), (8, (V.ptr 4 0)), (9, (V.ptr 5 0))], 10⟩), (Blk.cells [(V.yld 11)]), (Blk.cells [(vu z9x2)]), (Blk.cells [(vb true)]), Blk.dfr, (Blk.loop .done (some .ret) ⟨106, [11], (subC [1, 1, 0, 0] (bodyOf Tryd.f106)), (subC [1, 1, 0, 1] (bodyOf Tryd.f106)), [(1, (V.ptr 7 0)), (2, (V.ptr 9 0)), (3, (V.ptr 8 0)), (4, (V.ptr 12 0))], 15⟩), Blk.dead], []⟩) (fun y10 => K (.exit 0) ⟨[], [(Blk.cells [(vu z9x1), (vu z9x2), (vu z9x3), (vu z9x4), (vu z9x5)]), (Blk.cells [(vi z9x6)]), (Blk.cells [(vu z9x1), (vu z9x2), (vu z9x3), (vu z9x4), (vu z9x5)]), (Blk.cells [(V.fn 42 [] [(V.ptr 1 0)])]), (Blk.cells [(vi 0)]), (Blk.cells [(vb false)]), (Blk.cells [(vu z9x1), (vu z9x2), (vu z9x3), (vu z9x4), (vu z9x5)]), (Blk.cells [(vu z9x1), (vu z9x2), (vu z9x3), (vu z9x4), (vu z9x5)]), (Blk.cells [(vi z9x7)]), (Blk.cells [(vb true)]), Blk.dfr, (Blk.loop .ready none ⟨39, [37], (subC [1, 0, 1, 1, 1, 0, 1, 0, 0, 1, 1, 0, 0, 1, 1, 1, 1, 1, 0, 0] (bodyOf Tryd.f39)), (subC [1, 0, 1, 1, 1, 0, 1, 0, 0, 1, 1, 0, 0, 1, 1, 1, 1, 1, 0, 1] (bodyOf Tryd.f39)), [(7, (V.ptr 3 0)), (8, (V.ptr 4 0)), (9, (V.ptr 5 0))], 10⟩), (Blk.cells [(V.yld 11)]), (Blk.cells [(vu z9x2)]), (Blk.cells [(vb true)]), Blk.dfr, (Blk.loop .ready none ⟨106, [11], (subC [1, 1, 0, 0] (bodyOf Tryd.f106)), (subC [1, 1, 0, 1] (bodyOf Tryd.f106)), [(1, (V.ptr 7 0)), (2, (V.ptr 9 0)), (3, (V.ptr 8 0)), (4, (V.ptr 12 0))], 15⟩), Blk.dead], []⟩) y10
def q18_1_K (K : Ret → S → Prop) (z9 : next_Last_l1_Z) (z9q : q18_1_Q) (y10 : next_Last_l1_Y) : Prop := q18_1_Kp K (z9.2.1) (z9.2.2.1) (z9.2.2.2.1) (z9.2.2.2.2.1) (z9.2.2.2.2.2.1) (z9.2.2.2.2.2.2.1) (z9.2.2.2.2.2.2.2.1) z9q y10
end Go.Proofs.YtiffoefhadgdnaaDoor
