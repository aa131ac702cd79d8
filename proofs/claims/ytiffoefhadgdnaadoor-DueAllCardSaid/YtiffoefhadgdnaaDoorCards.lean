/-
  DERIVED. GIVEN WITH THE SEED: THE CARDS: each row of YtiffoefhadgdnaaDoorRows.lean that lists a variable, with what it lists TIED to the program's text (the seventh form; the later family's looks); each row that meets fmt, with fmt's text TOLD by the authors' own Lean function (tested against real Go, not proved from fmt's source: count such statements apart). THE CARD IS WHAT COUNTS. Prove the row's statement (the work); the ties are given (YtiffoefhadgdnaaDoorTie.lean); close each card by the builder's one call (the guide's Derived/Test/ToyasCard.lean, 'card_holds'). Laid BY PROGRAM, IN A SANDBOX (cutbox-door.mjs). By AI agents, Wed Nov 11 2026. No macro, syntax, notation, axiom, sorry.
-/
import Derived.Test.YtiffoefhadgdnaaDoorRows
import GoSem.ClaimSeven
namespace Go.Proofs.YtiffoefhadgdnaaDoor
namespace Rows

/-- THE TIED CARD OF 'curfewlaw08.NextSome'. -/
def nextSomeCard : Claim7 := { stood := { row := nextSomeRow, standIns := [], harness := (true, "8814d136a99b342880a49e7cce674401e7b8cac83b95838cf6d922c302f708ee"), looks := false }, kinds := [], alts := [], laidByText := true, laidKinds := [.data, .data, .data], laidTests := true, laidLooks := .later }
def NextSomeCardSaid : Prop := Claim7.holds Tryd.pinned (.plain (OpenSpec.ofChange nextSomeSpec)) nextSomeCard

/-- THE TIED CARD OF 'curfewlaw08.NextTurns'. -/
def nextTurnsCard : Claim7 := { stood := { row := nextTurnsRow, standIns := [], harness := (true, "8814d136a99b342880a49e7cce674401e7b8cac83b95838cf6d922c302f708ee"), looks := false }, kinds := [], alts := [], laidByText := true, laidKinds := [.data, .data, .data], laidTests := true, laidLooks := .later }
def NextTurnsCardSaid : Prop := Claim7.holds Tryd.pinned (.plain (OpenSpec.ofChange nextTurnsSpec)) nextTurnsCard

/-- THE TIED CARD OF 'curfewlaw08.NextTells'. -/
def nextTellsCard : Claim7 := { stood := { row := nextTellsRow, standIns := [], harness := (true, "8814d136a99b342880a49e7cce674401e7b8cac83b95838cf6d922c302f708ee"), looks := false }, kinds := [], alts := [], laidByText := true, laidKinds := [.data, .data, .data], laidTests := true, laidLooks := .later }
def NextTellsCardSaid : Prop := Claim7.holds Tryd.pinned (.plain (OpenSpec.ofChange nextTellsSpec)) nextTellsCard

/-- THE TIED CARD OF 'curfewlaw08.NextEver'. -/
def nextEverCard : Claim7 := { stood := { row := nextEverRow, standIns := [], harness := (true, "8814d136a99b342880a49e7cce674401e7b8cac83b95838cf6d922c302f708ee"), looks := false }, kinds := [], alts := [], laidByText := true, laidKinds := [.data, .data, .data], laidTests := true, laidLooks := .later }
def NextEverCardSaid : Prop := Claim7.holds Tryd.pinned (.plain (OpenSpec.ofChange nextEverSpec)) nextEverCard

/-- THE TIED CARD OF 'curfewlaw08.NextTight'. -/
def nextTightCard : Claim7 := { stood := { row := nextTightRow, standIns := [], harness := (true, "8814d136a99b342880a49e7cce674401e7b8cac83b95838cf6d922c302f708ee"), looks := false }, kinds := [], alts := [], laidByText := true, laidKinds := [.data, .data, .data], laidTests := true, laidLooks := .later }
def NextTightCardSaid : Prop := Claim7.holds Tryd.pinned (.plain (OpenSpec.ofChange nextTightSpec)) nextTightCard

/-- THE TIED CARD OF 'curfewlaw13.DueRises'. -/
def dueRisesCard : Claim7 := { stood := { row := dueRisesRow, standIns := [], harness := (true, "8814d136a99b342880a49e7cce674401e7b8cac83b95838cf6d922c302f708ee"), looks := false }, kinds := [], alts := [], laidByText := true, laidKinds := [.data, .data, .data], laidTests := true, laidLooks := .later }
def DueRisesCardSaid : Prop := Claim7.holds Tryd.pinned (.plain (OpenSpec.ofChange dueRisesSpec)) dueRisesCard

/-- THE TIED CARD OF 'curfewlaw13.DueCatch'. -/
def dueCatchCard : Claim7 := { stood := { row := dueCatchRow, standIns := [], harness := (true, "8814d136a99b342880a49e7cce674401e7b8cac83b95838cf6d922c302f708ee"), looks := false }, kinds := [], alts := [], laidByText := true, laidKinds := [.data, .data, .data], laidTests := true, laidLooks := .later }
def DueCatchCardSaid : Prop := Claim7.holds Tryd.pinned (.plain (OpenSpec.ofChange dueCatchSpec)) dueCatchCard

/-- THE TIED CARD OF 'curfewlaw13.DueAll'. -/
def dueAllCard : Claim7 := { stood := { row := dueAllRow, standIns := [], harness := (true, "8814d136a99b342880a49e7cce674401e7b8cac83b95838cf6d922c302f708ee"), looks := false }, kinds := [], alts := [], laidByText := true, laidKinds := [.data, .data, .data], laidTests := true, laidLooks := .later }
def DueAllCardSaid : Prop := Claim7.holds Tryd.pinned (.plain (OpenSpec.ofChange dueAllSpec)) dueAllCard

/-- THE TIED CARD OF 'curfewlaw08.NextParts'. -/
def nextPartsCard : Claim7 := { stood := { row := nextPartsRow, standIns := [], harness := (true, "8814d136a99b342880a49e7cce674401e7b8cac83b95838cf6d922c302f708ee"), looks := false }, kinds := [], alts := [], laidByText := true, laidKinds := [.data, .data, .data], laidTests := true, laidLooks := .later }
def NextPartsCardSaid : Prop := Claim7.holds Tryd.pinned (.plain (OpenSpec.ofChange nextPartsSpec)) nextPartsCard

/-- THE SECOND FORM's CARD OF 'curfewlaw08.NextSome'. -/
def nextSomeUptoCard : Claim7 := { stood := { row := nextSomeUptoRow, standIns := [], harness := (true, "8814d136a99b342880a49e7cce674401e7b8cac83b95838cf6d922c302f708ee"), looks := false }, kinds := [], alts := [], laidByText := true, laidKinds := [.data, .data, .data], laidTests := true, laidLooks := .later }
def NextSomeUptoCardSaid : Prop := Claim7.holds Tryd.pinned (.plain (OpenSpec.upto nextSomeSpec)) nextSomeUptoCard

/-- THE SECOND FORM's CARD OF 'curfewlaw08.NextTurns'. -/
def nextTurnsUptoCard : Claim7 := { stood := { row := nextTurnsUptoRow, standIns := [], harness := (true, "8814d136a99b342880a49e7cce674401e7b8cac83b95838cf6d922c302f708ee"), looks := false }, kinds := [], alts := [], laidByText := true, laidKinds := [.data, .data, .data], laidTests := true, laidLooks := .later }
def NextTurnsUptoCardSaid : Prop := Claim7.holds Tryd.pinned (.plain (OpenSpec.upto nextTurnsSpec)) nextTurnsUptoCard

/-- THE SECOND FORM's CARD OF 'curfewlaw08.NextTells'. -/
def nextTellsUptoCard : Claim7 := { stood := { row := nextTellsUptoRow, standIns := [], harness := (true, "8814d136a99b342880a49e7cce674401e7b8cac83b95838cf6d922c302f708ee"), looks := false }, kinds := [], alts := [], laidByText := true, laidKinds := [.data, .data, .data], laidTests := true, laidLooks := .later }
def NextTellsUptoCardSaid : Prop := Claim7.holds Tryd.pinned (.plain (OpenSpec.upto nextTellsSpec)) nextTellsUptoCard

/-- THE SECOND FORM's CARD OF 'curfewlaw08.NextEver'. -/
def nextEverUptoCard : Claim7 := { stood := { row := nextEverUptoRow, standIns := [], harness := (true, "8814d136a99b342880a49e7cce674401e7b8cac83b95838cf6d922c302f708ee"), looks := false }, kinds := [], alts := [], laidByText := true, laidKinds := [.data, .data, .data], laidTests := true, laidLooks := .later }
def NextEverUptoCardSaid : Prop := Claim7.holds Tryd.pinned (.plain (OpenSpec.upto nextEverSpec)) nextEverUptoCard

/-- THE SECOND FORM's CARD OF 'curfewlaw08.NextTight'. -/
def nextTightUptoCard : Claim7 := { stood := { row := nextTightUptoRow, standIns := [], harness := (true, "8814d136a99b342880a49e7cce674401e7b8cac83b95838cf6d922c302f708ee"), looks := false }, kinds := [], alts := [], laidByText := true, laidKinds := [.data, .data, .data], laidTests := true, laidLooks := .later }
def NextTightUptoCardSaid : Prop := Claim7.holds Tryd.pinned (.plain (OpenSpec.upto nextTightSpec)) nextTightUptoCard

/-- THE SECOND FORM's CARD OF 'curfewlaw13.DueRises'. -/
def dueRisesUptoCard : Claim7 := { stood := { row := dueRisesUptoRow, standIns := [], harness := (true, "8814d136a99b342880a49e7cce674401e7b8cac83b95838cf6d922c302f708ee"), looks := false }, kinds := [], alts := [], laidByText := true, laidKinds := [.data, .data, .data], laidTests := true, laidLooks := .later }
def DueRisesUptoCardSaid : Prop := Claim7.holds Tryd.pinned (.plain (OpenSpec.upto dueRisesSpec)) dueRisesUptoCard

/-- THE SECOND FORM's CARD OF 'curfewlaw13.DueCatch'. -/
def dueCatchUptoCard : Claim7 := { stood := { row := dueCatchUptoRow, standIns := [], harness := (true, "8814d136a99b342880a49e7cce674401e7b8cac83b95838cf6d922c302f708ee"), looks := false }, kinds := [], alts := [], laidByText := true, laidKinds := [.data, .data, .data], laidTests := true, laidLooks := .later }
def DueCatchUptoCardSaid : Prop := Claim7.holds Tryd.pinned (.plain (OpenSpec.upto dueCatchSpec)) dueCatchUptoCard

/-- THE SECOND FORM's CARD OF 'curfewlaw13.DueAll'. -/
def dueAllUptoCard : Claim7 := { stood := { row := dueAllUptoRow, standIns := [], harness := (true, "8814d136a99b342880a49e7cce674401e7b8cac83b95838cf6d922c302f708ee"), looks := false }, kinds := [], alts := [], laidByText := true, laidKinds := [.data, .data, .data], laidTests := true, laidLooks := .later }
def DueAllUptoCardSaid : Prop := Claim7.holds Tryd.pinned (.plain (OpenSpec.upto dueAllSpec)) dueAllUptoCard

/-- THE SECOND FORM's CARD OF 'curfewlaw08.NextParts'. -/
def nextPartsUptoCard : Claim7 := { stood := { row := nextPartsUptoRow, standIns := [], harness := (true, "8814d136a99b342880a49e7cce674401e7b8cac83b95838cf6d922c302f708ee"), looks := false }, kinds := [], alts := [], laidByText := true, laidKinds := [.data, .data, .data], laidTests := true, laidLooks := .later }
def NextPartsUptoCardSaid : Prop := Claim7.holds Tryd.pinned (.plain (OpenSpec.upto nextPartsSpec)) nextPartsUptoCard
end Rows
end Go.Proofs.YtiffoefhadgdnaaDoor
