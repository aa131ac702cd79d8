/- Whether a cron ever matches. -/
import Derived.Test.YtjmjfjhiggiglaaDoorMm
namespace Go.Proofs.YtjmjfjhiggiglaaDoor
open Go Go.B
set_option linter.unusedSimpArgs false
set_option linter.unusedVariables false
set_option linter.unusedSectionVars false
set_option maxRecDepth 20000

theorem br_yes {b : Bool} {X Y : Prop} (hb : b = true) (h : X) : br b X Y := by subst hb; exact h

theorem br_no {b : Bool} {X Y : Prop} (hb : b = false) (h : Y) : br b X Y := by subst hb; exact h

theorem ansB2 (o : Option Int) : (ansB o).2 = o.isSome := by cases o <;> rfl

theorem isSome_of {α : Type} {o : Option α} (h : o ≠ none) : o.isSome = true := by cases o with
  | none => exact absurd rfl h
  | some x => rfl

theorem none_of {c : Cron} (hf : ¬ fitsC c) (a : Int) : nextF c a = none ∧ lastF c a = none := by
  constructor
  · cases h : nextF c a with
    | none => rfl
    | some t => exact absurd (next_fits h) hf
  · cases h : lastF c a with
    | none => rfl
    | some t => exact absurd (last_fits h) hf
end Go.Proofs.YtjmjfjhiggiglaaDoor
