/- Rows, by what goes in. -/
import Derived.Test.YtjmjfjhiggiglaaDoorJb
import Derived.Test.YtjmjfjhiggiglaaDoorMo
namespace Go.Proofs.YtjmjfjhiggiglaaDoor
open Go Go.B Go.RowKit
set_option linter.unusedVariables false
set_option linter.unusedSectionVars false

abbrev jobTy : Ty := .pr (.int .u32) (.pr .bool (.pr cronTy (.pr (.int .i64) (.pr (.int .i64) (.pr (.int .i64) (.int .i64))))))

abbrev rowTy : Ty := .pr jobTy (.pr .bool (.pr (.int .i64) (.pr (.pr (.int .u64) (.pr (.int .i64) (.int .i64))) (.sl (.int .i64)))))

def jobOf (x : jobTy.den) : Job := ⟨x.1, x.2.1, cronOf x.2.2.1, x.2.2.2.1, x.2.2.2.2.1, x.2.2.2.2.2.1, x.2.2.2.2.2.2⟩

theorem jobOf_in {x : jobTy.den} (h : inT jobTy x) : (jobOf x).in := ⟨cronOf_in h.2.2.1, i64_range h.2.2.2.1⟩

def rowOf (x : rowTy.den) : Row := ⟨jobOf x.1, x.2.1, x.2.2.1, x.2.2.2.1.1, x.2.2.2.1.2.1, x.2.2.2.1.2.2, x.2.2.2.2⟩

theorem rowOf_in {x : rowTy.den} (h : inT rowTy x) : (rowOf x).j.in ∧ 0 ≤ (rowOf x).num := ⟨jobOf_in h.1, (u64_range h.2.2.2.1.1).1⟩
end Go.Proofs.YtjmjfjhiggiglaaDoor
