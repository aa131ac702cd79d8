/- A row in memory of its own. -/
import Derived.Test.YtjmjfjhiggiglaaDoorJc
namespace Go.Proofs.YtjmjfjhiggiglaaDoor
open Go Go.B
set_option linter.unusedSimpArgs false
set_option linter.unusedVariables false
set_option linter.unusedSectionVars false
set_option maxRecDepth 20000

theorem own_fn {r : Row} : curfewlaw13_own_R r.j.name r.j.once r.j.c.mi r.j.c.ho r.j.c.da r.j.c.mo r.j.c.we r.j.at_ r.j.ov r.j.ca r.j.re r.pa r.nx r.num r.due r.try_ r.q ({ r with q := r.q.take 5 } : Row).tup := by
  have e : (if 5 < ((r.q.length : Nat) : Int) then (5 : Int) else ((r.q.length : Nat) : Int)) = ((min 5 r.q.length : Nat) : Int) := by split <;> omega
  unfold curfewlaw13_own_R
  rw [e]
  refine ⟨?_, r.q.take 5, ?_, rfl⟩
  · simp only [Bool.and_eq_true, decide_eq_true_eq, Nat.ble_eq, Int.toNat_natCast]
    omega
  · simp only [Int.toNat_natCast, Nat.sub_zero, List.drop_zero]
    have : r.q.take (min 5 r.q.length) = r.q.take 5 := by
      rcases Nat.le_total 5 r.q.length with k | k
      · rw [Nat.min_eq_left k]
      · rw [Nat.min_eq_right k, List.take_length, List.take_of_length_le k]
    rw [this]
    exact Clone_fn (by simp; omega)
end Go.Proofs.YtjmjfjhiggiglaaDoor
