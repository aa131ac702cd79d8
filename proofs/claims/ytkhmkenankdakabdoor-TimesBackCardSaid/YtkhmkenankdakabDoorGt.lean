/- Plain functions for Go functions (printed by gen.py). -/
import Derived.Test.YtkhmkenankdakabDoorTimV
import Derived.Test.YtkhmkenankdakabDoorAbM
import Derived.Test.YtkhmkenankdakabDoorProg
namespace Go.Proofs.YtkhmkenankdakabDoor
open Go Go.Ab Go.RowKit
set_option linter.unusedVariables false
set_option linter.unusedSimpArgs false
set_option maxRecDepth 100000
attribute [local irreducible] Go.Ab.acall Go.Ab.acode
def tyT : List (Nat × TyE) := [(1, ⟨.other, 1, [(V.old .nilFunc)]⟩),
  (2, ⟨.int .i64, 1, [(V.int .i64 0)]⟩),
  (3, ⟨.int .i64, 1, [(V.int .i64 0)]⟩),
  (4, ⟨.bool, 1, [(V.bool false)]⟩),
  (5, ⟨.int .u8, 1, [(V.int .u8 0)]⟩),
  (6, ⟨.int .u8, 1, [(V.int .u8 0)]⟩),
  (7, ⟨.st [(2, 0), (3, 1), (4, 2), (6, 3)], 4, [(V.int .i64 0), (V.int .i64 0), (V.bool false), (V.int .u8 0)]⟩),
  (8, ⟨.st [(2, 0), (3, 1), (4, 2), (6, 3)], 4, [(V.int .i64 0), (V.int .i64 0), (V.bool false), (V.int .u8 0)]⟩),
  (9, ⟨.str, 1, [(V.str ⟨#[]⟩)]⟩),
  (10, ⟨.str, 1, [(V.str ⟨#[]⟩)]⟩),
  (11, ⟨.str, 1, [(V.str ⟨#[]⟩)]⟩),
  (12, ⟨.int .u64, 1, [(V.int .u64 0)]⟩),
  (13, ⟨.st [(9, 0), (12, 1)], 2, [(V.str ⟨#[]⟩), (V.int .u64 0)]⟩),
  (14, ⟨.st [(9, 0), (12, 1)], 2, [(V.str ⟨#[]⟩), (V.int .u64 0)]⟩),
  (15, ⟨.ptr 90, 1, [(V.old (.pointer none))]⟩),
  (16, ⟨.ptr 93, 1, [(V.old (.pointer none))]⟩),
  (17, ⟨.ptr 103, 1, [(V.old (.pointer none))]⟩),
  (18, ⟨.st [(17, 0)], 1, [(V.old (.pointer none))]⟩),
  (19, ⟨.st [(17, 0)], 1, [(V.old (.pointer none))]⟩),
  (21, ⟨.int .i32, 1, [(V.int .i32 0)]⟩),
  (22, ⟨.other, 1, [(V.old .nilFunc)]⟩),
  (23, ⟨.int .i64, 1, [(V.int .i64 0)]⟩),
  (25, ⟨.other, 1, [(V.old .nilFunc)]⟩),
  (27, ⟨.other, 1, [(V.old .nilFunc)]⟩),
  (28, ⟨.other, 1, [(V.old .nilFunc)]⟩),
  (29, ⟨.other, 1, [(V.old .nilFunc)]⟩),
  (30, ⟨.slc 2, 1, [(V.old (.slice none 0 0))]⟩),
  (31, ⟨.other, 1, [(V.old .nilFunc)]⟩),
  (32, ⟨.other, 1, [(V.old .nilFunc)]⟩),
  (33, ⟨.slc 37, 1, [(V.old (.slice none 0 0))]⟩),
  (34, ⟨.st [(3, 0), (3, 1), (3, 2)], 3, [(V.int .i64 0), (V.int .i64 0), (V.int .i64 0)]⟩),
  (35, ⟨.st [(3, 0), (3, 1), (3, 2)], 3, [(V.int .i64 0), (V.int .i64 0), (V.int .i64 0)]⟩),
  (36, ⟨.st [(35, 0), (3, 3), (3, 4), (3, 5)], 6, [(V.int .i64 0), (V.int .i64 0), (V.int .i64 0), (V.int .i64 0), (V.int .i64 0), (V.int .i64 0)]⟩),
  (37, ⟨.st [(35, 0), (3, 3), (3, 4), (3, 5)], 6, [(V.int .i64 0), (V.int .i64 0), (V.int .i64 0), (V.int .i64 0), (V.int .i64 0), (V.int .i64 0)]⟩),
  (39, ⟨.other, 1, [(V.old .nilFunc)]⟩),
  (41, ⟨.other, 1, [(V.old .nilFunc)]⟩),
  (42, ⟨.other, 1, [(V.old .nilFunc)]⟩),
  (43, ⟨.other, 1, [(V.old .nilFunc)]⟩),
  (44, ⟨.other, 1, [(V.old .nilFunc)]⟩),
  (45, ⟨.other, 1, [(V.old .nilFunc)]⟩),
  (46, ⟨.other, 1, [(V.old .nilFunc)]⟩),
  (47, ⟨.other, 1, [(V.old .nilFunc)]⟩),
  (48, ⟨.other, 1, [(V.old .nilFunc)]⟩),
  (49, ⟨.slc 50, 1, [(V.old (.slice none 0 0))]⟩),
  (50, ⟨.arr 2 2, 2, [(V.int .i64 0), (V.int .i64 0)]⟩),
  (52, ⟨.other, 1, [(V.old .nilFunc)]⟩),
  (53, ⟨.other, 1, [(V.old .nilFunc)]⟩),
  (54, ⟨.slc 9, 1, [(V.old (.slice none 0 0))]⟩),
  (55, ⟨.other, 1, [(V.old .nilFunc)]⟩),
  (56, ⟨.other, 1, [(V.old .nilFunc)]⟩),
  (57, ⟨.other, 1, [(V.old .nilFunc)]⟩),
  (58, ⟨.other, 1, [(V.old .nilFunc)]⟩),
  (59, ⟨.other, 1, [(V.old .nilFunc)]⟩),
  (60, ⟨.other, 1, [(V.old .nilFunc)]⟩),
  (61, ⟨.other, 1, [(V.old .nilFunc)]⟩),
  (62, ⟨.ptr 65, 1, [(V.old (.pointer none))]⟩),
  (63, ⟨.slc 5, 1, [(V.old (.slice none 0 0))]⟩),
  (64, ⟨.st [(37, 0), (63, 6)], 7, [(V.int .i64 0), (V.int .i64 0), (V.int .i64 0), (V.int .i64 0), (V.int .i64 0), (V.int .i64 0), (V.old (.slice none 0 0))]⟩),
  (65, ⟨.st [(37, 0), (63, 6)], 7, [(V.int .i64 0), (V.int .i64 0), (V.int .i64 0), (V.int .i64 0), (V.int .i64 0), (V.int .i64 0), (V.old (.slice none 0 0))]⟩),
  (66, ⟨.arr 6 1, 6, [(V.old .nilFunc), (V.old .nilFunc), (V.old .nilFunc), (V.old .nilFunc), (V.old .nilFunc), (V.old .nilFunc)]⟩),
  (68, ⟨.other, 1, [(V.old .nilFunc)]⟩),
  (69, ⟨.other, 1, [(V.old .nilFunc)]⟩),
  (70, ⟨.other, 1, [(V.old .nilFunc)]⟩),
  (71, ⟨.other, 1, [(V.old .nilFunc)]⟩),
  (72, ⟨.other, 1, [(V.old .nilFunc)]⟩),
  (73, ⟨.arr 2 3, 2, [(V.int .i64 0), (V.int .i64 0)]⟩),
  (74, ⟨.other, 1, [(V.old .nilFunc)]⟩),
  (75, ⟨.other, 1, [(V.old .nilFunc)]⟩),
  (76, ⟨.other, 1, [(V.old .nilFunc)]⟩),
  (77, ⟨.arr 6 3, 6, [(V.int .i64 0), (V.int .i64 0), (V.int .i64 0), (V.int .i64 0), (V.int .i64 0), (V.int .i64 0)]⟩),
  (79, ⟨.other, 1, [(V.old .nilFunc)]⟩),
  (80, ⟨.other, 1, [(V.old .nilFunc)]⟩),
  (81, ⟨.other, 1, [(V.old .nilFunc)]⟩),
  (82, ⟨.st [(3, 0), (3, 1), (3, 2)], 3, [(V.int .i64 0), (V.int .i64 0), (V.int .i64 0)]⟩),
  (83, ⟨.arr 4 82, 12, [(V.int .i64 0), (V.int .i64 0), (V.int .i64 0), (V.int .i64 0), (V.int .i64 0), (V.int .i64 0), (V.int .i64 0), (V.int .i64 0), (V.int .i64 0), (V.int .i64 0), (V.int .i64 0), (V.int .i64 0)]⟩),
  (84, ⟨.other, 1, [(V.old .nilFunc)]⟩),
  (85, ⟨.slc 73, 1, [(V.old (.slice none 0 0))]⟩),
  (86, ⟨.arr 12 3, 12, [(V.int .i64 0), (V.int .i64 0), (V.int .i64 0), (V.int .i64 0), (V.int .i64 0), (V.int .i64 0), (V.int .i64 0), (V.int .i64 0), (V.int .i64 0), (V.int .i64 0), (V.int .i64 0), (V.int .i64 0)]⟩),
  (87, ⟨.arr 13 3, 13, [(V.int .i64 0), (V.int .i64 0), (V.int .i64 0), (V.int .i64 0), (V.int .i64 0), (V.int .i64 0), (V.int .i64 0), (V.int .i64 0), (V.int .i64 0), (V.int .i64 0), (V.int .i64 0), (V.int .i64 0), (V.int .i64 0)]⟩),
  (88, ⟨.other, 1, [(V.old .nilFunc)]⟩),
  (89, ⟨.st [(17, 0), (17, 1), (17, 2), (9, 3)], 4, [(V.old (.pointer none)), (V.old (.pointer none)), (V.old (.pointer none)), (V.str ⟨#[]⟩)]⟩),
  (90, ⟨.st [(17, 0), (17, 1), (17, 2), (9, 3)], 4, [(V.old (.pointer none)), (V.old (.pointer none)), (V.old (.pointer none)), (V.str ⟨#[]⟩)]⟩),
  (94, ⟨.other, 1, [(V.old .nilFunc)]⟩),
  (95, ⟨.int .u32, 1, [(V.int .u32 0)]⟩),
  (96, ⟨.int .u8, 1, [(V.int .u8 0)]⟩),
  (97, ⟨.int .u8, 1, [(V.int .u8 0)]⟩),
  (98, ⟨.other, 1, [(V.old .nilFunc)]⟩),
  (99, ⟨.ptr 5, 1, [(V.old (.pointer none))]⟩),
  (100, ⟨.int .i32, 1, [(V.int .i32 0)]⟩),
  (101, ⟨.int .i32, 1, [(V.int .i32 0)]⟩),
  (102, ⟨.st [(12, 0), (12, 1), (95, 2), (96, 3), (5, 4), (5, 5), (97, 6), (98, 7), (99, 8), (100, 9), (101, 10)], 11, [(V.int .u64 0), (V.int .u64 0), (V.int .u32 0), (V.int .u8 0), (V.int .u8 0), (V.int .u8 0), (V.int .u8 0), (V.old .nilFunc), (V.old (.pointer none)), (V.int .i32 0), (V.int .i32 0)]⟩),
  (103, ⟨.st [(12, 0), (12, 1), (95, 2), (96, 3), (5, 4), (5, 5), (97, 6), (98, 7), (99, 8), (100, 9), (101, 10)], 11, [(V.int .u64 0), (V.int .u64 0), (V.int .u32 0), (V.int .u8 0), (V.int .u8 0), (V.int .u8 0), (V.int .u8 0), (V.old .nilFunc), (V.old (.pointer none)), (V.int .i32 0), (V.int .i32 0)]⟩)]

def gsT : List (Nat × (IntKind × List Int)) := [(0, (.i64, longTab))]
def eqT : List (Nat × (List V → List V → Option Bool)) := eqsOf tyT [35, 37]
def okT : FuncId → Nat → Bool := fun _ => kept
def lpT : FuncId → Nat → Nat := fun _ _ => 70
theorem ty_ok {c : Cx} (h : c.ty = tyT) : TyOk Tryd.prog c := TyOk_of (by rw [h]; kernel_rfl)
theorem eq_ok {c : Cx} (h : c.eqs = eqT) : EqOk Tryd.prog c := eqsOf_ok (ty := tyT) (ss := [35, 37]) (ty_ok (c := ⟨tyT, [], [], []⟩) rfl) (by kernel_rfl) h
theorem follows_ok : Tryd.prog.follows .mixedOrders = true := by kernel_rfl
theorem days_laid {w : World} (h : Gl gsT w) : DaysLaid w := h 0 .i64 longTab rfl
theorem laid_days {w : World} (h : DaysLaid w) : Gl gsT w := by
  intro g k ns hg
  simp only [gsT, assoc] at hg
  split at hg
  · rename_i e; have := Nat.eq_of_beq_eq_true e; subst this; cases hg; exact h
  · cases hg
noncomputable def times_At_g : List V → Option (V × Bool)
  | [.int .i64 a0] => some ((V.tup [(V.agg [(V.int .i64 (atY a0)), (V.int .i64 (atM a0)), (V.int .i64 (atD a0)), (V.int .i64 (atA a0)), (V.int .i64 (atB a0)), (V.int .i64 (atC a0))]), (V.int .i64 (eTime a0))]), true)
  | _ => none
theorem times_At_ok : PureOk Tryd.prog gsT 16 times_At_g := PureOk.mk' (enters Tryd.func16 (by kernel_rfl) rfl) fun args v hv => by
  unfold times_At_g at hv
  split at hv
  · obtain ⟨rfl, hp⟩ := got_eq hv
    refine ⟨rfl, rfl, fun w hG => ?_⟩
    simp only [dens, den]
    exact (at_hand _ w).mono (fun _ _ h => ⟨h.1, h.2.below⟩)
  · cases hv
noncomputable def times_Of_g : List V → Option (V × Bool)
  | [.agg [.int .i64 a0, .int .i64 a1, .int .i64 a2, .int .i64 a3, .int .i64 a4, .int .i64 a5]] => some ((V.tup [(V.int .i64 (ofT a0 a1 a2 a3 a4 a5)), (V.int .i64 (eOfT a0 a1 a2 a3 a4 a5))]), true)
  | _ => none
theorem times_Of_ok : PureOk Tryd.prog gsT 20 times_Of_g := PureOk.mk' (enters Tryd.func20 (by kernel_rfl) rfl) fun args v hv => by
  unfold times_Of_g at hv
  split at hv
  · obtain ⟨rfl, hp⟩ := got_eq hv
    refine ⟨rfl, rfl, fun w hG => ?_⟩
    simp only [dens, den]
    exact (of_hand _ _ _ _ _ _ w (days_laid hG)).mono (fun _ _ h => ⟨h.1, h.2.below⟩)
  · cases hv
noncomputable def times_Text_g : List V → Option (V × Bool)
  | [.int .i64 a0] => some ((V.tup [(V.str (textT a0)), (V.int .i64 (eTime a0))]), true)
  | _ => none
theorem times_Text_ok : PureOk Tryd.prog gsT 10 times_Text_g := PureOk.mk' (enters Tryd.func10 (by kernel_rfl) rfl) fun args v hv => by
  unfold times_Text_g at hv
  split at hv
  · obtain ⟨rfl, hp⟩ := got_eq hv
    refine ⟨rfl, rfl, fun w hG => ?_⟩
    simp only [dens, den]
    exact (text_hand _ w).mono (fun _ _ h => ⟨h.1, h.2.below⟩)
  · cases hv
def times_Parse_pre (a0 : ByteArray) : Bool := decide (ByteArray.size a0 ≤ maxLen)
noncomputable def times_Parse_g : List V → Option (V × Bool)
  | [.str a0] => some ((V.tup [(V.int .i64 (parT a0)), (V.int .i64 (eParT a0))]), (times_Parse_pre a0))
  | _ => none
theorem times_Parse_ok : PureOk Tryd.prog gsT 27 times_Parse_g := PureOk.mk' (enters Tryd.func27 (by kernel_rfl) rfl) fun args v hv => by
  unfold times_Parse_g at hv
  split at hv
  · obtain ⟨rfl, hp⟩ := got_eq hv
    refine ⟨rfl, rfl, fun w hG => ?_⟩
    simp only [dens, den]
    exact (parse_hand _ w (days_laid hG) hp).mono (fun _ _ h => ⟨h.1, h.2.below⟩)
  · cases hv
noncomputable def days_Of_g : List V → Option (V × Bool)
  | [.agg [.int .i64 a0, .int .i64 a1, .int .i64 a2]] => some ((V.tup [(V.int .i64 (ofD a0 a1 a2)), (V.int .i64 (eOfD a0 a1 a2))]), true)
  | _ => none
theorem days_Of_ok : PureOk Tryd.prog gsT 29 days_Of_g := PureOk.mk' (enters Tryd.func29 (by kernel_rfl) rfl) fun args v hv => by
  unfold days_Of_g at hv
  split at hv
  · obtain ⟨rfl, hp⟩ := got_eq hv
    refine ⟨rfl, rfl, fun w hG => ?_⟩
    simp only [dens, den]
    exact (ofD_hand _ _ _ w (days_laid hG)).mono (fun _ _ h => ⟨h.1, h.2.below⟩)
  · cases hv
noncomputable def days_Weekday_g : List V → Option (V × Bool)
  | [.int .i64 a0] => some ((V.tup [(V.int .i64 (wdD a0)), (V.int .i64 (eDay a0))]), true)
  | _ => none
theorem days_Weekday_ok : PureOk Tryd.prog gsT 30 days_Weekday_g := PureOk.mk' (enters Tryd.func30 (by kernel_rfl) rfl) fun args v hv => by
  unfold days_Weekday_g at hv
  split at hv
  · obtain ⟨rfl, hp⟩ := got_eq hv
    refine ⟨rfl, rfl, fun w hG => ?_⟩
    simp only [dens, den]
    exact (wdD_hand _ w).mono (fun _ _ h => ⟨h.1, h.2.below⟩)
  · cases hv
noncomputable def times_Weekday_g : List V → Option (V × Bool)
  | [.int .i64 a0] => some ((V.tup [(V.int .i64 (wdT a0)), (V.int .i64 (eTime a0))]), true)
  | _ => none
theorem times_Weekday_ok : PureOk Tryd.prog gsT 17 times_Weekday_g := PureOk.mk' (enters Tryd.func17 (by kernel_rfl) rfl) fun args v hv => by
  unfold times_Weekday_g at hv
  split at hv
  · obtain ⟨rfl, hp⟩ := got_eq hv
    refine ⟨rfl, rfl, fun w hG => ?_⟩
    simp only [dens, den]
    exact (wdT_hand _ w).mono (fun _ _ h => ⟨h.1, h.2.below⟩)
  · cases hv
noncomputable def times_May_g : List V → Option (V × Bool)
  | [.int .i64 a0] => some ((V.bool (timeB a0)), true)
  | _ => none
theorem times_May_ok : PureOk Tryd.prog gsT 12 times_May_g := PureOk.mk' (enters Tryd.func12 (by kernel_rfl) rfl) fun args v hv => by
  unfold times_May_g at hv
  split at hv
  · obtain ⟨rfl, hp⟩ := got_eq hv
    refine ⟨rfl, rfl, fun w hG => ?_⟩
    simp only [dens, den]
    exact (may_hand _ w).mono (fun _ _ h => ⟨h.1, h.2.below⟩)
  · cases hv
noncomputable def curfewlaw05_wakes_g : List V → Option (V × Bool)
  | [] => some ((V.bool true), true)
  | _ => none
theorem curfewlaw05_wakes_ok : PureOk Tryd.prog gsT 9 curfewlaw05_wakes_g := PureOk.mk' (enters Tryd.func9 (by kernel_rfl) rfl) fun args v hv => by
  unfold curfewlaw05_wakes_g at hv
  split at hv
  · obtain ⟨rfl, hp⟩ := got_eq hv
    refine ⟨rfl, rfl, fun w hG => ?_⟩
    simp only [dens, den]
    exact (timesWakes w (days_laid hG)).mono (fun _ _ h => ⟨h.1, h.2.below⟩)
  · cases hv
def curfewlaw05_TimesBack_pre (a0 : Int) (a1 : Int) (a2 : Int) (a3 : Int) (a4 : Int) (a5 : Int) (a6 : Int) (a7 : ByteArray) : Bool := decide (ByteArray.size a7 ≤ maxLen)
def curfewlaw05_TimesBack_g : List V → Option (V × Bool)
  | [.int .i64 a0, .agg [.int .i64 a1, .int .i64 a2, .int .i64 a3, .int .i64 a4, .int .i64 a5, .int .i64 a6], .str a7] => some ((V.bool true), (curfewlaw05_TimesBack_pre a0 a1 a2 a3 a4 a5 a6 a7))
  | _ => none
noncomputable def curfewlaw05_TimesBack_cx : Cx := ⟨tyT, [(8, .body Tryd.f8), (9, .pure curfewlaw05_wakes_g), (10, .pure times_Text_g), (12, .pure times_May_g), (16, .pure times_At_g), (17, .pure times_Weekday_g), (20, .pure times_Of_g), (27, .pure times_Parse_g), (29, .pure days_Of_g), (30, .pure days_Weekday_g)], gsT, eqT⟩
theorem curfewlaw05_TimesBack_fns : FnsOk Tryd.prog curfewlaw05_TimesBack_cx := Fns_assoc ⟨body_ent Tryd.func8 (by kernel_rfl) (by kernel_rfl), curfewlaw05_wakes_ok, times_Text_ok, times_May_ok, times_At_ok, times_Weekday_ok, times_Of_ok, times_Parse_ok, days_Of_ok, days_Weekday_ok, trivial⟩
theorem curfewlaw05_TimesBack_tree (a0 : Int) (a1 : Int) (a2 : Int) (a3 : Int) (a4 : Int) (a5 : Int) (a6 : Int) (a7 : ByteArray) (K : V → List Blk → Prop) : acall curfewlaw05_TimesBack_cx okT lpT 40 (.fn 8 [] []) [(V.int .i64 a0), (V.agg [(V.int .i64 a1), (V.int .i64 a2), (V.int .i64 a3), (V.int .i64 a4), (V.int .i64 a5), (V.int .i64 a6)]), (V.str a7)] [] K =
    (br ((eTime a0) == 0) (req (times_Parse_pre (textT a0)) (br ((eOfT (atY a0) (atM a0) (atD a0) (atA a0) (atB a0) (atC a0)) != 0) (K (V.bool false) []) (br ((eTime a0) != 0) (K (V.bool false) []) (br ((eParT (textT a0)) != 0) (K (V.bool false) []) (br ((eOfD (atY a0) (atM a0) (atD a0)) != 0) (K (V.bool false) []) (br ((eDay (ofD (atY a0) (atM a0) (atD a0))) != 0) (K (V.bool false) []) (br ((eTime a0) != 0) (K (V.bool false) []) (br ((ofT (atY a0) (atM a0) (atD a0) (atA a0) (atB a0) (atC a0)) != a0) (K (V.bool false) []) (br ((parT (textT a0)) != a0) (K (V.bool false) []) (br ((wdD (ofD (atY a0) (atM a0) (atD a0))) != (wdT a0)) (K (V.bool false) []) (br ((ofD (atY a0) (atM a0) (atD a0)) != (IntKind.wrap .i64 (Int.tdiv a0 86400))) (K (V.bool false) []) (br ((eOfT a1 a2 a3 a4 a5 a6) == 0) (br ((eTime (ofT a1 a2 a3 a4 a5 a6)) != 0) (K (V.bool false) []) (br (!((((atY (ofT a1 a2 a3 a4 a5 a6)) == a1) && (((atM (ofT a1 a2 a3 a4 a5 a6)) == a2) && (((atD (ofT a1 a2 a3 a4 a5 a6)) == a3) && true))) && (((atA (ofT a1 a2 a3 a4 a5 a6)) == a4) && (((atB (ofT a1 a2 a3 a4 a5 a6)) == a5) && (((atC (ofT a1 a2 a3 a4 a5 a6)) == a6) && true))))) (K (V.bool false) []) (br (!(timeB (ofT a1 a2 a3 a4 a5 a6))) (K (V.bool false) []) (req (times_Parse_pre a7) (br ((eParT a7) == 0) (br ((eTime (parT a7)) != 0) (K (V.bool false) []) (br (!((ByteArray.toList (textT (parT a7))) == (ByteArray.toList a7))) (K (V.bool false) []) (K (V.bool true) []))) (K (V.bool true) [])))))) (req (times_Parse_pre a7) (br ((eParT a7) == 0) (br ((eTime (parT a7)) != 0) (K (V.bool false) []) (br (!((ByteArray.toList (textT (parT a7))) == (ByteArray.toList a7))) (K (V.bool false) []) (K (V.bool true) []))) (K (V.bool true) []))))))))))))))) (br ((eOfT a1 a2 a3 a4 a5 a6) == 0) (br ((eTime (ofT a1 a2 a3 a4 a5 a6)) != 0) (K (V.bool false) []) (br (!((((atY (ofT a1 a2 a3 a4 a5 a6)) == a1) && (((atM (ofT a1 a2 a3 a4 a5 a6)) == a2) && (((atD (ofT a1 a2 a3 a4 a5 a6)) == a3) && true))) && (((atA (ofT a1 a2 a3 a4 a5 a6)) == a4) && (((atB (ofT a1 a2 a3 a4 a5 a6)) == a5) && (((atC (ofT a1 a2 a3 a4 a5 a6)) == a6) && true))))) (K (V.bool false) []) (br (!(timeB (ofT a1 a2 a3 a4 a5 a6))) (K (V.bool false) []) (req (times_Parse_pre a7) (br ((eParT a7) == 0) (br ((eTime (parT a7)) != 0) (K (V.bool false) []) (br (!((ByteArray.toList (textT (parT a7))) == (ByteArray.toList a7))) (K (V.bool false) []) (K (V.bool true) []))) (K (V.bool true) [])))))) (req (times_Parse_pre a7) (br ((eParT a7) == 0) (br ((eTime (parT a7)) != 0) (K (V.bool false) []) (br (!((ByteArray.toList (textT (parT a7))) == (ByteArray.toList a7))) (K (V.bool false) []) (K (V.bool true) []))) (K (V.bool true) []))))) := by kernel_rfl
end Go.Proofs.YtkhmkenankdakabDoor
