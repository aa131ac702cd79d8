/- NextParts: the plain law. -/
import Derived.Test.YtjmjfjhiggiglaaDoorMp
import Derived.Test.YtjmjfjhiggiglaaDoorMi
import Derived.Test.YtjmjfjhiggiglaaDoorMo
import Derived.Test.YtjmjfjhiggiglaaDoorGNextParts
namespace Go.Proofs.YtjmjfjhiggiglaaDoor
open Go Go.B Go.RowKit
set_option linter.unusedSimpArgs false
set_option linter.unusedVariables false
set_option linter.unusedSectionVars false
set_option maxRecDepth 20000

theorem Less_fn (a b : Int) : cmp_Less_int64_R a b (decide (a < b)) :=
  ⟨_, rfl, br_no (by simp) rfl⟩

theorem Some_no {c : Cron} (hc : c.in) (hok : c.ok = false) (lo hi most : Int) : next_Some_R c.mi c.ho c.da c.mo c.we lo hi most ([], 170) :=
  ⟨_, cron_Check_no hc hok, br_yes rfl rfl⟩

theorem parts_fn {c : Cron} (hc : c.in) {lo mid hi : Int} (h1 : lo ≤ mid) (h2 : mid ≤ hi) {n : Nat} {m : Int} (hn : m = n) (h9 : n ≤ 9) :
    ∃ y6 : List Int × Int, next_Some_R c.mi c.ho c.da c.mo c.we lo mid m y6 ∧ ∃ y8 : List Int × Int, next_Some_R c.mi c.ho c.da c.mo c.we mid hi (IntKind.wrap .i64 (m - (((y6.1).length : Nat) : Int))) y8 ∧
      ∃ y10 : List Int × Int, next_Some_R c.mi c.ho c.da c.mo c.we lo hi m y10 ∧
        br (y6.2 != 0) (br (y6.2 == 170) (br (y8.2 == y6.2) (br (y10.2 == y6.2) (((IntKind.wrap .i64 ((IntKind.wrap .i64 ((((y6.1).length : Nat) : Int) + (((y8.1).length : Nat) : Int))) + (((y10.1).length : Nat) : Int))) == 0) = true) (false = true)) (false = true)) (false = true))
          (br (y8.2 == 0) (br (y10.2 == 0) (req (Nat.ble ((y6.1 ++ y8.1).length * 9) 140737488355328) (∃ y13 : Bool, slices_Equal__int64_int64_R (y6.1 ++ y8.1) y10.1 y13 ∧ (y13 = true))) (false = true)) (false = true)) := by
  subst hn
  cases hok : c.ok
  · exact ⟨_, Some_no hc hok _ _ _, _, Some_no hc hok _ _ _, _, Some_no hc hok _ _ _, br_yes rfl (br_yes rfl (br_yes rfl (br_yes rfl rfl)))⟩
  · have a := next_Some_yes hc hok lo mid n (by omega)
    have al := someL_le (c := c) (hi := mid) (d := n) (t := lo)
    have b := next_Some_yes hc hok mid hi (n - (someL c mid n lo []).length) (by omega)
    have bl := someL_le (c := c) (hi := hi) (d := n - (someL c mid n lo []).length) (t := mid)
    have d := next_Some_yes hc hok lo hi n (by omega)
    have e : IntKind.wrap .i64 ((n : Int) - (((someL c mid n lo []).length : Nat) : Int)) = ((n - (someL c mid n lo []).length : Nat) : Int) := by rw [wi (by omega) (by omega)]; omega
    rw [← e] at b
    have p := someL_parts hc h2 n lo h1
    refine ⟨_, a, _, b, _, d, br_no rfl (br_yes rfl (br_yes rfl ⟨nl_ok (by simp; omega), _, ?_, rfl⟩))⟩
    show slices_Equal__int64_int64_R (someL c mid n lo [] ++ someL c hi (n - (someL c mid n lo []).length) mid []) (someL c hi n lo []) true
    rw [p]
    have := someL_le (c := c) (hi := hi) (d := n) (t := lo)
    exact Equal_yes _ (by omega)

theorem parts_law {c : Cron} (hc : c.in) (x y z most : Int) : curfewlaw08_NextParts_R c.mi c.ho c.da c.mo c.we x y z most true := by
  obtain ⟨n, hn, h9⟩ : ∃ n : Nat, IntKind.wrap .i64 (Int.tmod (IntKind.wrap .u64 most) 10) = n ∧ n ≤ 9 := by
    have h0 : 0 ≤ IntKind.wrap .u64 most := by rw [wue]; omega
    have e : Int.tmod (IntKind.wrap .u64 most) 10 = IntKind.wrap .u64 most % 10 := Int.tmod_eq_emod_of_nonneg h0
    refine ⟨(IntKind.wrap .u64 most % 10).toNat, ?_, by omega⟩
    rw [e, wi (by omega) (by omega)]; omega
  refine ⟨_, wakes08, br_no rfl ⟨_, Less_fn y x, ?_⟩⟩
  by_cases a : y < x
  · refine br_yes (yes_of a) ⟨_, Less_fn z x, ?_⟩
    by_cases b : z < x
    · refine br_yes (yes_of b) ⟨_, Less_fn z y, ?_⟩
      by_cases d : z < y
      · exact br_yes (yes_of d) (parts_fn hc (by omega) (by omega) hn h9)
      · exact br_no (no_of d) (parts_fn hc (by omega) (by omega) hn h9)
    · exact br_no (no_of b) (parts_fn hc (by omega) (by omega) hn h9)
  · refine br_no (no_of a) ⟨_, Less_fn z y, ?_⟩
    by_cases b : z < y
    · refine br_yes (yes_of b) ⟨_, Less_fn z x, ?_⟩
      by_cases d : z < x
      · exact br_yes (yes_of d) (parts_fn hc (by omega) (by omega) hn h9)
      · exact br_no (no_of d) (parts_fn hc (by omega) (by omega) hn h9)
    · exact br_no (no_of b) (parts_fn hc (by omega) (by omega) hn h9)

theorem law_NextParts (x : cronTy.den) (h : inT cronTy x) (l : Int × Int × Int) (hl : inT (.pr (.int .i64) (.pr (.int .i64) (.int .i64))) l) (most : Int) (w : (Lit.int .i64 most).wf = true) :
    curfewlaw08_NextParts_R x.1 x.2.1 x.2.2.1 x.2.2.2.1 x.2.2.2.2 l.1 l.2.1 l.2.2 most true :=
  parts_law (c := cronOf x) (cronOf_in h) _ _ _ _
end Go.Proofs.YtjmjfjhiggiglaaDoor
