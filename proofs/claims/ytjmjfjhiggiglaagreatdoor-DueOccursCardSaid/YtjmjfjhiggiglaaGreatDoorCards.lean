/-
  DERIVED. GIVEN WITH THE SEED: THE CARDS: each row of YtjmjfjhiggiglaaGreatDoorRows.lean that lists a variable, with what it lists TIED to the program's text (the seventh form; the later family's looks); each row that meets fmt, with fmt's text TOLD by the authors' own Lean function (tested against real Go, not proved from fmt's source: count such statements apart). THE CARD IS WHAT COUNTS. Prove the row's statement (the work); the ties are given (YtjmjfjhiggiglaaGreatDoorTie.lean); close each card by the builder's one call (the guide's Derived/Test/ToyasCard.lean, 'card_holds'). Laid BY PROGRAM, IN A SANDBOX (cutbox-door.mjs). By AI agents, Wed Nov 11 2026. No macro, syntax, notation, axiom, sorry.
-/
import Derived.Test.YtjmjfjhiggiglaaGreatDoorRows
import GoSem.ClaimSeven
namespace Go.Proofs.YtjmjfjhiggiglaaGreatDoor
namespace Rows

/-- THE TIED CARD OF 'curfewlaw13.DueOccurs'. -/
def dueOccursCard : Claim7 := { stood := { row := dueOccursRow, standIns := [], harness := (true, "594a12ea5b20bf99e73ad70180c1e57d1bfc15a8bbbf528bc88545ae1aa77c2b"), looks := false }, kinds := [], alts := [], laidByText := true, laidKinds := [.data, .data, .data], laidTests := true, laidLooks := .later }
def DueOccursCardSaid : Prop := Claim7.holds Tryz.pinned (.plain (OpenSpec.ofChange dueOccursSpec)) dueOccursCard

/-- THE TIED CARD OF 'curfewlaw13.DueGoes'. -/
def dueGoesCard : Claim7 := { stood := { row := dueGoesRow, standIns := [], harness := (true, "594a12ea5b20bf99e73ad70180c1e57d1bfc15a8bbbf528bc88545ae1aa77c2b"), looks := false }, kinds := [], alts := [], laidByText := true, laidKinds := [.data, .data, .data], laidTests := true, laidLooks := .later }
def DueGoesCardSaid : Prop := Claim7.holds Tryz.pinned (.plain (OpenSpec.ofChange dueGoesSpec)) dueGoesCard

/-- THE SECOND FORM's CARD OF 'curfewlaw13.DueOccurs'. -/
def dueOccursUptoCard : Claim7 := { stood := { row := dueOccursUptoRow, standIns := [], harness := (true, "594a12ea5b20bf99e73ad70180c1e57d1bfc15a8bbbf528bc88545ae1aa77c2b"), looks := false }, kinds := [], alts := [], laidByText := true, laidKinds := [.data, .data, .data], laidTests := true, laidLooks := .later }
def DueOccursUptoCardSaid : Prop := Claim7.holds Tryz.pinned (.plain (OpenSpec.upto dueOccursSpec)) dueOccursUptoCard

/-- THE SECOND FORM's CARD OF 'curfewlaw13.DueGoes'. -/
def dueGoesUptoCard : Claim7 := { stood := { row := dueGoesUptoRow, standIns := [], harness := (true, "594a12ea5b20bf99e73ad70180c1e57d1bfc15a8bbbf528bc88545ae1aa77c2b"), looks := false }, kinds := [], alts := [], laidByText := true, laidKinds := [.data, .data, .data], laidTests := true, laidLooks := .later }
def DueGoesUptoCardSaid : Prop := Claim7.holds Tryz.pinned (.plain (OpenSpec.upto dueGoesSpec)) dueGoesUptoCard
end Rows
end Go.Proofs.YtjmjfjhiggiglaaGreatDoor
