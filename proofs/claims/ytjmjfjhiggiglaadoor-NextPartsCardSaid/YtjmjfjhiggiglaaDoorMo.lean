/- NextEver and NextTight, by what goes in. -/
import Derived.Test.YtjmjfjhiggiglaaDoorMn
import Derived.Test.YtjmjfjhiggiglaaDoorMj
namespace Go.Proofs.YtjmjfjhiggiglaaDoor
open Go Go.B Go.RowKit
set_option linter.unusedSimpArgs false
set_option linter.unusedVariables false
set_option linter.unusedSectionVars false

def cronOf (x : cronTy.den) : Cron := ⟨x.1, x.2.1, x.2.2.1, x.2.2.2.1, x.2.2.2.2⟩

theorem cronOf_in {x : cronTy.den} (h : inT cronTy x) : (cronOf x).in := ⟨u64_range h.1, u64_range h.2.1, u64_range h.2.2.1, u64_range h.2.2.2.1, u64_range h.2.2.2.2⟩

theorem ints_mem {k : IntKind} {l : List Int} (h : inT (.sl (.int k)) l) {p : Int} (hp : p ∈ l) : (Lit.int k p).wf = true := by
  obtain ⟨i, hi, rfl⟩ := List.getElem_of_mem hp
  exact h.2 i hi

theorem len_le {n : Nat} (h : n ≤ maxLen) : n ≤ 9223372036854775807 := by simpa [maxLen] using h
end Go.Proofs.YtjmjfjhiggiglaaDoor
