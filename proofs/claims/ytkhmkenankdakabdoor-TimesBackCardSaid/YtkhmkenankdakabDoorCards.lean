/-
  DERIVED. GIVEN WITH THE SEED: THE CARDS: each row of YtkhmkenankdakabDoorRows.lean that lists a variable, with what it lists TIED to the program's text (the seventh form; the later family's looks); each row that meets fmt, with fmt's text TOLD by the authors' own Lean function (tested against real Go, not proved from fmt's source: count such statements apart). THE CARD IS WHAT COUNTS. Prove the row's statement (the work); the ties are given (YtkhmkenankdakabDoorTie.lean); close each card by the builder's one call (the guide's Derived/Test/ToyasCard.lean, 'card_holds'). Laid BY PROGRAM, IN A SANDBOX (cutbox-door.mjs). By AI agents, Wed Nov 11 2026. No macro, syntax, notation, axiom, sorry.
-/
import Derived.Test.YtkhmkenankdakabDoorRows
import GoSem.ClaimSeven
namespace Go.Proofs.YtkhmkenankdakabDoor
namespace Rows

/-- THE TIED CARD OF 'curfewlaw05.TimesOrder'. -/
def timesOrderCard : Claim7 := { stood := { row := timesOrderRow, standIns := [], harness := (true, "2b5420b16b6b333979ac4207a31f22e2bc30696df606bf23f03c0a190f968ccd"), looks := false }, kinds := [], alts := [], laidByText := true, laidKinds := [.data], laidTests := true, laidLooks := .later }
def TimesOrderCardSaid : Prop := Claim7.holds Tryd.pinned (.plain (OpenSpec.ofChange timesOrderSpec)) timesOrderCard

/-- THE TIED CARD OF 'curfewlaw05.TimesRead'. -/
def timesReadCard : Claim7 := { stood := { row := timesReadRow, standIns := [], harness := (true, "2b5420b16b6b333979ac4207a31f22e2bc30696df606bf23f03c0a190f968ccd"), looks := false }, kinds := [], alts := [], laidByText := true, laidKinds := [.data], laidTests := true, laidLooks := .later }
def TimesReadCardSaid : Prop := Claim7.holds Tryd.pinned (.plain (OpenSpec.ofChange timesReadSpec)) timesReadCard

/-- THE TIED CARD OF 'curfewlaw05.TimesTells'. -/
def timesTellsCard : Claim7 := { stood := { row := timesTellsRow, standIns := [], harness := (true, "2b5420b16b6b333979ac4207a31f22e2bc30696df606bf23f03c0a190f968ccd"), looks := false }, kinds := [], alts := [], laidByText := true, laidKinds := [.data], laidTests := true, laidLooks := .later }
def TimesTellsCardSaid : Prop := Claim7.holds Tryd.pinned (.plain (OpenSpec.ofChange timesTellsSpec)) timesTellsCard

/-- THE TIED CARD OF 'curfewlaw05.TimesGoes'. -/
def timesGoesCard : Claim7 := { stood := { row := timesGoesRow, standIns := [], harness := (true, "2b5420b16b6b333979ac4207a31f22e2bc30696df606bf23f03c0a190f968ccd"), looks := false }, kinds := [], alts := [], laidByText := true, laidKinds := [.data], laidTests := true, laidLooks := .later }
def TimesGoesCardSaid : Prop := Claim7.holds Tryd.pinned (.plain (OpenSpec.ofChange timesGoesSpec)) timesGoesCard

/-- THE TIED CARD OF 'curfewlaw05.TimesTexts'. -/
def timesTextsCard : Claim7 := { stood := { row := timesTextsRow, standIns := [], harness := (true, "2b5420b16b6b333979ac4207a31f22e2bc30696df606bf23f03c0a190f968ccd"), looks := false }, kinds := [], alts := [], laidByText := true, laidKinds := [.data], laidTests := true, laidLooks := .later }
def TimesTextsCardSaid : Prop := Claim7.holds Tryd.pinned (.plain (OpenSpec.ofChange timesTextsSpec)) timesTextsCard

/-- THE TIED CARD OF 'curfewlaw05.TimesBack'. -/
def timesBackCard : Claim7 := { stood := { row := timesBackRow, standIns := [], harness := (true, "2b5420b16b6b333979ac4207a31f22e2bc30696df606bf23f03c0a190f968ccd"), looks := false }, kinds := [], alts := [], laidByText := true, laidKinds := [.data], laidTests := true, laidLooks := .later }
def TimesBackCardSaid : Prop := Claim7.holds Tryd.pinned (.plain (OpenSpec.ofChange timesBackSpec)) timesBackCard

/-- THE SECOND FORM's CARD OF 'curfewlaw05.TimesOrder'. -/
def timesOrderUptoCard : Claim7 := { stood := { row := timesOrderUptoRow, standIns := [], harness := (true, "2b5420b16b6b333979ac4207a31f22e2bc30696df606bf23f03c0a190f968ccd"), looks := false }, kinds := [], alts := [], laidByText := true, laidKinds := [.data], laidTests := true, laidLooks := .later }
def TimesOrderUptoCardSaid : Prop := Claim7.holds Tryd.pinned (.plain (OpenSpec.upto timesOrderSpec)) timesOrderUptoCard

/-- THE SECOND FORM's CARD OF 'curfewlaw05.TimesRead'. -/
def timesReadUptoCard : Claim7 := { stood := { row := timesReadUptoRow, standIns := [], harness := (true, "2b5420b16b6b333979ac4207a31f22e2bc30696df606bf23f03c0a190f968ccd"), looks := false }, kinds := [], alts := [], laidByText := true, laidKinds := [.data], laidTests := true, laidLooks := .later }
def TimesReadUptoCardSaid : Prop := Claim7.holds Tryd.pinned (.plain (OpenSpec.upto timesReadSpec)) timesReadUptoCard

/-- THE SECOND FORM's CARD OF 'curfewlaw05.TimesTells'. -/
def timesTellsUptoCard : Claim7 := { stood := { row := timesTellsUptoRow, standIns := [], harness := (true, "2b5420b16b6b333979ac4207a31f22e2bc30696df606bf23f03c0a190f968ccd"), looks := false }, kinds := [], alts := [], laidByText := true, laidKinds := [.data], laidTests := true, laidLooks := .later }
def TimesTellsUptoCardSaid : Prop := Claim7.holds Tryd.pinned (.plain (OpenSpec.upto timesTellsSpec)) timesTellsUptoCard

/-- THE SECOND FORM's CARD OF 'curfewlaw05.TimesGoes'. -/
def timesGoesUptoCard : Claim7 := { stood := { row := timesGoesUptoRow, standIns := [], harness := (true, "2b5420b16b6b333979ac4207a31f22e2bc30696df606bf23f03c0a190f968ccd"), looks := false }, kinds := [], alts := [], laidByText := true, laidKinds := [.data], laidTests := true, laidLooks := .later }
def TimesGoesUptoCardSaid : Prop := Claim7.holds Tryd.pinned (.plain (OpenSpec.upto timesGoesSpec)) timesGoesUptoCard

/-- THE SECOND FORM's CARD OF 'curfewlaw05.TimesTexts'. -/
def timesTextsUptoCard : Claim7 := { stood := { row := timesTextsUptoRow, standIns := [], harness := (true, "2b5420b16b6b333979ac4207a31f22e2bc30696df606bf23f03c0a190f968ccd"), looks := false }, kinds := [], alts := [], laidByText := true, laidKinds := [.data], laidTests := true, laidLooks := .later }
def TimesTextsUptoCardSaid : Prop := Claim7.holds Tryd.pinned (.plain (OpenSpec.upto timesTextsSpec)) timesTextsUptoCard

/-- THE SECOND FORM's CARD OF 'curfewlaw05.TimesBack'. -/
def timesBackUptoCard : Claim7 := { stood := { row := timesBackUptoRow, standIns := [], harness := (true, "2b5420b16b6b333979ac4207a31f22e2bc30696df606bf23f03c0a190f968ccd"), looks := false }, kinds := [], alts := [], laidByText := true, laidKinds := [.data], laidTests := true, laidLooks := .later }
def TimesBackUptoCardSaid : Prop := Claim7.holds Tryd.pinned (.plain (OpenSpec.upto timesBackSpec)) timesBackUptoCard
end Rows
end Go.Proofs.YtkhmkenankdakabDoor
