/-
  DERIVED. GIVEN WITH THE SEED: THE CARDS: each row of YtkhmkenankdakaaDoorRows.lean that lists a variable, with what it lists TIED to the program's text (the seventh form; the later family's looks); each row that meets fmt, with fmt's text TOLD by the authors' own Lean function (tested against real Go, not proved from fmt's source: count such statements apart). THE CARD IS WHAT COUNTS. Prove the row's statement (the work); the ties are given (YtkhmkenankdakaaDoorTie.lean); close each card by the builder's one call (the guide's Derived/Test/ToyasCard.lean, 'card_holds'). Laid BY PROGRAM, IN A SANDBOX (cutbox-door.mjs). By AI agents, Wed Nov 11 2026. No macro, syntax, notation, axiom, sorry.
-/
import Derived.Test.YtkhmkenankdakaaDoorRows
import GoSem.ClaimSeven
namespace Go.Proofs.YtkhmkenankdakaaDoor
namespace Rows

/-- THE TIED CARD OF 'curfewlaw04.DaysNumbers'. -/
def daysNumbersCard : Claim7 := { stood := { row := daysNumbersRow, standIns := [], harness := (true, "0b660fa8f588904180f5f750932a08f445e2a141bbdb60fd47e07c9e74d99c7e"), looks := false }, kinds := [], alts := [], laidByText := true, laidKinds := [.data], laidTests := true, laidLooks := .later }
def DaysNumbersCardSaid : Prop := Claim7.holds Tryd.pinned (.plain (OpenSpec.ofChange daysNumbersSpec)) daysNumbersCard

/-- THE TIED CARD OF 'curfewlaw04.DaysAdds'. -/
def daysAddsCard : Claim7 := { stood := { row := daysAddsRow, standIns := [], harness := (true, "0b660fa8f588904180f5f750932a08f445e2a141bbdb60fd47e07c9e74d99c7e"), looks := false }, kinds := [], alts := [], laidByText := true, laidKinds := [.data], laidTests := true, laidLooks := .later }
def DaysAddsCardSaid : Prop := Claim7.holds Tryd.pinned (.plain (OpenSpec.ofChange daysAddsSpec)) daysAddsCard

/-- THE TIED CARD OF 'curfewlaw04.DaysBack'. -/
def daysBackCard : Claim7 := { stood := { row := daysBackRow, standIns := [], harness := (true, "0b660fa8f588904180f5f750932a08f445e2a141bbdb60fd47e07c9e74d99c7e"), looks := false }, kinds := [], alts := [], laidByText := true, laidKinds := [.data], laidTests := true, laidLooks := .later }
def DaysBackCardSaid : Prop := Claim7.holds Tryd.pinned (.plain (OpenSpec.ofChange daysBackSpec)) daysBackCard

/-- THE TIED CARD OF 'curfewlaw04.DaysTells'. -/
def daysTellsCard : Claim7 := { stood := { row := daysTellsRow, standIns := [], harness := (true, "0b660fa8f588904180f5f750932a08f445e2a141bbdb60fd47e07c9e74d99c7e"), looks := false }, kinds := [], alts := [], laidByText := true, laidKinds := [.data], laidTests := true, laidLooks := .later }
def DaysTellsCardSaid : Prop := Claim7.holds Tryd.pinned (.plain (OpenSpec.ofChange daysTellsSpec)) daysTellsCard

/-- THE TIED CARD OF 'curfewlaw04.DaysGo'. -/
def daysGoCard : Claim7 := { stood := { row := daysGoRow, standIns := [], harness := (true, "0b660fa8f588904180f5f750932a08f445e2a141bbdb60fd47e07c9e74d99c7e"), looks := false }, kinds := [], alts := [], laidByText := true, laidKinds := [.data], laidTests := true, laidLooks := .later }
def DaysGoCardSaid : Prop := Claim7.holds Tryd.pinned (.plain (OpenSpec.ofChange daysGoSpec)) daysGoCard

/-- THE TIED CARD OF 'curfewlaw04.DaysEras'. -/
def daysErasCard : Claim7 := { stood := { row := daysErasRow, standIns := [], harness := (true, "0b660fa8f588904180f5f750932a08f445e2a141bbdb60fd47e07c9e74d99c7e"), looks := false }, kinds := [], alts := [], laidByText := true, laidKinds := [.data], laidTests := true, laidLooks := .later }
def DaysErasCardSaid : Prop := Claim7.holds Tryd.pinned (.plain (OpenSpec.ofChange daysErasSpec)) daysErasCard

/-- THE SECOND FORM's CARD OF 'curfewlaw04.DaysNumbers'. -/
def daysNumbersUptoCard : Claim7 := { stood := { row := daysNumbersUptoRow, standIns := [], harness := (true, "0b660fa8f588904180f5f750932a08f445e2a141bbdb60fd47e07c9e74d99c7e"), looks := false }, kinds := [], alts := [], laidByText := true, laidKinds := [.data], laidTests := true, laidLooks := .later }
def DaysNumbersUptoCardSaid : Prop := Claim7.holds Tryd.pinned (.plain (OpenSpec.upto daysNumbersSpec)) daysNumbersUptoCard

/-- THE SECOND FORM's CARD OF 'curfewlaw04.DaysAdds'. -/
def daysAddsUptoCard : Claim7 := { stood := { row := daysAddsUptoRow, standIns := [], harness := (true, "0b660fa8f588904180f5f750932a08f445e2a141bbdb60fd47e07c9e74d99c7e"), looks := false }, kinds := [], alts := [], laidByText := true, laidKinds := [.data], laidTests := true, laidLooks := .later }
def DaysAddsUptoCardSaid : Prop := Claim7.holds Tryd.pinned (.plain (OpenSpec.upto daysAddsSpec)) daysAddsUptoCard

/-- THE SECOND FORM's CARD OF 'curfewlaw04.DaysBack'. -/
def daysBackUptoCard : Claim7 := { stood := { row := daysBackUptoRow, standIns := [], harness := (true, "0b660fa8f588904180f5f750932a08f445e2a141bbdb60fd47e07c9e74d99c7e"), looks := false }, kinds := [], alts := [], laidByText := true, laidKinds := [.data], laidTests := true, laidLooks := .later }
def DaysBackUptoCardSaid : Prop := Claim7.holds Tryd.pinned (.plain (OpenSpec.upto daysBackSpec)) daysBackUptoCard

/-- THE SECOND FORM's CARD OF 'curfewlaw04.DaysTells'. -/
def daysTellsUptoCard : Claim7 := { stood := { row := daysTellsUptoRow, standIns := [], harness := (true, "0b660fa8f588904180f5f750932a08f445e2a141bbdb60fd47e07c9e74d99c7e"), looks := false }, kinds := [], alts := [], laidByText := true, laidKinds := [.data], laidTests := true, laidLooks := .later }
def DaysTellsUptoCardSaid : Prop := Claim7.holds Tryd.pinned (.plain (OpenSpec.upto daysTellsSpec)) daysTellsUptoCard

/-- THE SECOND FORM's CARD OF 'curfewlaw04.DaysGo'. -/
def daysGoUptoCard : Claim7 := { stood := { row := daysGoUptoRow, standIns := [], harness := (true, "0b660fa8f588904180f5f750932a08f445e2a141bbdb60fd47e07c9e74d99c7e"), looks := false }, kinds := [], alts := [], laidByText := true, laidKinds := [.data], laidTests := true, laidLooks := .later }
def DaysGoUptoCardSaid : Prop := Claim7.holds Tryd.pinned (.plain (OpenSpec.upto daysGoSpec)) daysGoUptoCard

/-- THE SECOND FORM's CARD OF 'curfewlaw04.DaysEras'. -/
def daysErasUptoCard : Claim7 := { stood := { row := daysErasUptoRow, standIns := [], harness := (true, "0b660fa8f588904180f5f750932a08f445e2a141bbdb60fd47e07c9e74d99c7e"), looks := false }, kinds := [], alts := [], laidByText := true, laidKinds := [.data], laidTests := true, laidLooks := .later }
def DaysErasUptoCardSaid : Prop := Claim7.holds Tryd.pinned (.plain (OpenSpec.upto daysErasSpec)) daysErasUptoCard
end Rows
end Go.Proofs.YtkhmkenankdakaaDoor
