/- NextEver: the plain law. -/
import Derived.Test.YtiffoefhadgdnaaDoorMn
import Derived.Test.YtiffoefhadgdnaaDoorMo
import Derived.Test.YtiffoefhadgdnaaDoorGNextEver
namespace Go.Proofs.YtiffoefhadgdnaaDoor
open Go Go.B Go.RowKit
set_option linter.unusedSimpArgs false
set_option linter.unusedVariables false
set_option linter.unusedSectionVars false
set_option maxRecDepth 20000

theorem ever_law {c : Cron} (hc : c.in) (a : Int) : curfewlaw08_NextEver_R c.mi c.ho c.da c.mo c.we a true := by
  have hr : IntKind.wrap .i64 (Int.tmod (IntKind.wrap .u64 a) 253149753600) = a % 18446744073709551616 % 253149753600 := by
    rw [wue, Int.tmod_eq_emod_of_nonneg (by omega)]; exact wi (by omega) (by omega)
  unfold curfewlaw08_NextEver_R
  rw [hr]
  obtain ⟨r, hr⟩ : ∃ r, r = a % 18446744073709551616 % 253149753600 := ⟨_, rfl⟩
  rw [← hr]
  have r0 : 0 ≤ r := by omega
  have r1 : r < 253149753600 := by omega
  rw [wi (x := r + 252460800) (by omega) (by omega)]
  refine ⟨_, wakes08, ?_⟩
  by_cases hf : fitsC c
  · have n1 := next_ever hc hf (a := r) (n0 := r / 86400) (by unfold ofD; omega) (by omega) (by omega)
    have n2 := last_ever hc hf (a := r + 252460800) (n0 := r / 86400) (by omega) (by unfold ofD; omega) (by omega) (by omega)
    refine ⟨_, ever_true hc hf, _, next_Next_fn hc r, _, next_Last_fn hc (r + 252460800), ?_⟩
    rw [ansB2, ansB2, isSome_of n1, isSome_of n2]
    exact ⟨_, cron_Check_yes hc hf.1, rfl⟩
  · obtain ⟨n1, _⟩ := none_of hf r
    obtain ⟨_, n2⟩ := none_of hf (r + 252460800)
    refine ⟨_, ever_false hc hf, _, next_Next_fn hc r, _, next_Last_fn hc (r + 252460800), ?_⟩
    rw [ansB2, ansB2, n1, n2]
    refine ⟨_, cron_Check_fn hc, ?_⟩
    cases c.ok <;> rfl

theorem law_NextEver (x : cronTy.den) (h : inT cronTy x) (a : Int) (w : (Lit.int .i64 a).wf = true) : curfewlaw08_NextEver_R x.1 x.2.1 x.2.2.1 x.2.2.2.1 x.2.2.2.2 a true :=
  ever_law (c := cronOf x) (cronOf_in h) a
end Go.Proofs.YtiffoefhadgdnaaDoor
