import Derived.Test.YtjdpkihlgpojkaaGreatDoorMh
import Derived.Test.YtjdpkihlgpojkaaGreatDoorMti
/- Which times a cron has (cron.At). -/
namespace Go.Proofs.YtjdpkihlgpojkaaGreatDoor
open Go Go.B
set_option linter.unusedSimpArgs false
set_option linter.unusedVariables false
set_option linter.unusedSectionVars false
set_option maxRecDepth 20000

end Go.Proofs.YtjdpkihlgpojkaaGreatDoor
/- No time of a cron lies between what is asked and what is told. -/
namespace Go.Proofs.YtjdpkihlgpojkaaGreatDoor
open Go Go.B
set_option linter.unusedSimpArgs false
set_option linter.unusedVariables false
set_option linter.unusedSectionVars false
set_option maxRecDepth 20000

theorem find_none_of {p : Int → Bool} {l : List Int} (h : l.find? p = none) {x : Int} (hx : x ∈ l) : p x = false := by
  rw [List.find?_eq_none] at h
  have := h x hx
  simpa using this

end Go.Proofs.YtjdpkihlgpojkaaGreatDoor
