/-
  DERIVED. GIVEN WITH THE SEED: THE CARDS: each row of YtnjkboeibcoojaaGreatDoorRows.lean that lists a variable, with what it lists TIED to the program's text (the seventh form; the later family's looks); each row that meets fmt, with fmt's text TOLD by the authors' own Lean function (tested against real Go, not proved from fmt's source: count such statements apart). THE CARD IS WHAT COUNTS. Prove the row's statement (the work); the ties are given (YtnjkboeibcoojaaGreatDoorTie.lean); close each card by the builder's one call (the guide's Derived/Test/ToyasCard.lean, 'card_holds'). Laid BY PROGRAM, IN A SANDBOX (cutbox-door.mjs). By AI agents, Wed Nov 11 2026. No macro, syntax, notation, axiom, sorry.
-/
import Derived.Test.YtnjkboeibcoojaaGreatDoorRows
import GoSem.ClaimSeven
namespace Go.Proofs.YtnjkboeibcoojaaGreatDoor
namespace Rows

/-- THE TIED CARD OF 'curfewlaw13.DueGoes'. -/
def dueGoesCard : Claim7 := { stood := { row := dueGoesRow, standIns := [], harness := (true, "dcc871cc3b03cdda93e14bf8bd34a11f64197d0f54d5e345bd2b9aa2ed03c79b"), looks := false }, kinds := [], alts := [], laidByText := true, laidKinds := [.data, .data, .data], laidTests := true, laidLooks := .later }
def DueGoesCardSaid : Prop := Claim7.holds Tryz.pinned (.plain (OpenSpec.ofChange dueGoesSpec)) dueGoesCard

/-- THE TIED CARD OF 'curfewlaw10.JobBack'. -/
def jobBackCard : Claim7 := { stood := { row := jobBackRow, standIns := [], harness := (true, "dcc871cc3b03cdda93e14bf8bd34a11f64197d0f54d5e345bd2b9aa2ed03c79b"), looks := false }, kinds := [], alts := [], laidByText := true, laidKinds := [.data, .data, .data, .data, .data, .data, .data, .data, .pinned], laidTests := true, laidLooks := .later }
def JobBackCardSaid : Prop := Claim7.holds Tryz.pinned (.plain (OpenSpec.ofChange jobBackSpec)) jobBackCard

/-- THE SECOND FORM's CARD OF 'curfewlaw13.DueGoes'. -/
def dueGoesUptoCard : Claim7 := { stood := { row := dueGoesUptoRow, standIns := [], harness := (true, "dcc871cc3b03cdda93e14bf8bd34a11f64197d0f54d5e345bd2b9aa2ed03c79b"), looks := false }, kinds := [], alts := [], laidByText := true, laidKinds := [.data, .data, .data], laidTests := true, laidLooks := .later }
def DueGoesUptoCardSaid : Prop := Claim7.holds Tryz.pinned (.plain (OpenSpec.upto dueGoesSpec)) dueGoesUptoCard

/-- THE SECOND FORM's CARD OF 'curfewlaw10.JobBack'. -/
def jobBackUptoCard : Claim7 := { stood := { row := jobBackUptoRow, standIns := [], harness := (true, "dcc871cc3b03cdda93e14bf8bd34a11f64197d0f54d5e345bd2b9aa2ed03c79b"), looks := false }, kinds := [], alts := [], laidByText := true, laidKinds := [.data, .data, .data, .data, .data, .data, .data, .data, .pinned], laidTests := true, laidLooks := .later }
def JobBackUptoCardSaid : Prop := Claim7.holds Tryz.pinned (.plain (OpenSpec.upto jobBackSpec)) jobBackUptoCard
end Rows
end Go.Proofs.YtnjkboeibcoojaaGreatDoor
