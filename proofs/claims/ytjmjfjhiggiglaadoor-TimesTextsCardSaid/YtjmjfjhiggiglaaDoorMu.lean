/- times.At. -/
import Derived.Test.YtjmjfjhiggiglaaDoorMv
import Derived.Test.YtjmjfjhiggiglaaDoorMy
namespace Go.Proofs.YtjmjfjhiggiglaaDoor
open Go Go.B
set_option linter.unusedSimpArgs false
set_option linter.unusedVariables false
set_option linter.unusedSectionVars false

theorem times_At_fn {t : Int} (h : mayT t = true) : times_At_R t (((Cal.dat (t / 86400)).1, (Cal.dat (t / 86400)).2.1, (Cal.dat (t / 86400)).2.2, t % 86400 / 3600, t % 86400 % 3600 / 60, t % 86400 % 60), 0) := by
  obtain ⟨h0, h1⟩ := mayT_true h
  refine ⟨_, times_May_fn t, ?_⟩
  rw [h]
  have hd : dayB (t / 86400) = true := by simp [dayB]; omega
  have e1 : IntKind.wrap .i64 (Int.tdiv t 86400) = t / 86400 := by rw [Int.tdiv_eq_ediv_of_nonneg h0]; exact wi (by omega) (by omega)
  have e2 : Int.tmod t 86400 = t % 86400 := Int.tmod_eq_emod_of_nonneg h0
  have e3 : Int.tmod (t % 86400) 3600 = t % 86400 % 3600 := Int.tmod_eq_emod_of_nonneg (by omega)
  have e4 : Int.tmod (t % 86400 % 3600) 60 = t % 86400 % 60 := by rw [Int.tmod_eq_emod_of_nonneg (by omega)]; omega
  have e5 : IntKind.wrap .i64 (Int.tdiv (t % 86400) 3600) = t % 86400 / 3600 := by rw [Int.tdiv_eq_ediv_of_nonneg (by omega)]; exact wi (by omega) (by omega)
  have e6 : IntKind.wrap .i64 (Int.tdiv (t % 86400 % 3600) 60) = t % 86400 % 3600 / 60 := by rw [Int.tdiv_eq_ediv_of_nonneg (by omega)]; exact wi (by omega) (by omega)
  refine ⟨_, by rw [e1]; exact days_At_fn hd, ?_⟩
  have z : ((0 : Int) != 0) = false := rfl
  simp only [br, Bool.not_true, z, e2, e3, e5, e6]
  rw [show Int.tmod (t % 86400) 60 = t % 86400 % 60 from Int.tmod_eq_emod_of_nonneg (by omega)]
end Go.Proofs.YtjmjfjhiggiglaaDoor
