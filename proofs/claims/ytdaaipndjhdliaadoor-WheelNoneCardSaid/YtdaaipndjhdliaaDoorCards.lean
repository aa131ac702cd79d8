/-
  DERIVED. GIVEN WITH THE SEED: THE CARDS: each row of YtdaaipndjhdliaaDoorRows.lean that lists a variable, with what it lists TIED to the program's text (the seventh form; the later family's looks); each row that meets fmt, with fmt's text TOLD by the authors' own Lean function (tested against real Go, not proved from fmt's source: count such statements apart). THE CARD IS WHAT COUNTS. Prove the row's statement (the work); the ties are given (YtdaaipndjhdliaaDoorTie.lean); close each card by the builder's one call (the guide's Derived/Test/ToyasCard.lean, 'card_holds'). Laid BY PROGRAM, IN A SANDBOX (cutbox-door.mjs). By AI agents, Wed Nov 11 2026. No macro, syntax, notation, axiom, sorry.
-/
import Derived.Test.YtdaaipndjhdliaaDoorRows
import GoSem.ClaimSeven
namespace Go.Proofs.YtdaaipndjhdliaaDoor
namespace Rows

/-- THE TIED CARD OF 'curfewlaw09.WheelNone'. -/
def wheelNoneCard : Claim7 := { stood := { row := wheelNoneRow, standIns := [], harness := (true, "c38a326f1b11728a04f8c3138df22135ea0c57f56445a82eef2d97be1032b663"), looks := false }, kinds := [], alts := [], laidByText := true, laidKinds := [.data], laidTests := true, laidLooks := .later }
def WheelNoneCardSaid : Prop := Claim7.holds Tryd.pinned (.plain (OpenSpec.ofChange wheelNoneSpec)) wheelNoneCard

/-- THE TIED CARD OF 'curfewlaw09.WheelFull'. -/
def wheelFullCard : Claim7 := { stood := { row := wheelFullRow, standIns := [], harness := (true, "c38a326f1b11728a04f8c3138df22135ea0c57f56445a82eef2d97be1032b663"), looks := false }, kinds := [], alts := [], laidByText := true, laidKinds := [.data], laidTests := true, laidLooks := .later }
def WheelFullCardSaid : Prop := Claim7.holds Tryd.pinned (.plain (OpenSpec.ofChange wheelFullSpec)) wheelFullCard

/-- THE TIED CARD OF 'curfewlaw09.WheelSteps'. -/
def wheelStepsCard : Claim7 := { stood := { row := wheelStepsRow, standIns := [], harness := (true, "c38a326f1b11728a04f8c3138df22135ea0c57f56445a82eef2d97be1032b663"), looks := false }, kinds := [], alts := [], laidByText := true, laidKinds := [.data], laidTests := true, laidLooks := .later }
def WheelStepsCardSaid : Prop := Claim7.holds Tryd.pinned (.plain (OpenSpec.ofChange wheelStepsSpec)) wheelStepsCard

/-- THE TIED CARD OF 'curfewlaw09.WheelGoes'. -/
def wheelGoesCard : Claim7 := { stood := { row := wheelGoesRow, standIns := [], harness := (true, "c38a326f1b11728a04f8c3138df22135ea0c57f56445a82eef2d97be1032b663"), looks := false }, kinds := [], alts := [], laidByText := true, laidKinds := [.data], laidTests := true, laidLooks := .later }
def WheelGoesCardSaid : Prop := Claim7.holds Tryd.pinned (.plain (OpenSpec.ofChange wheelGoesSpec)) wheelGoesCard

/-- THE TIED CARD OF 'curfewlaw09.WheelOrder'. -/
def wheelOrderCard : Claim7 := { stood := { row := wheelOrderRow, standIns := [], harness := (true, "c38a326f1b11728a04f8c3138df22135ea0c57f56445a82eef2d97be1032b663"), looks := false }, kinds := [], alts := [], laidByText := true, laidKinds := [.data], laidTests := true, laidLooks := .later }
def WheelOrderCardSaid : Prop := Claim7.holds Tryd.pinned (.plain (OpenSpec.ofChange wheelOrderSpec)) wheelOrderCard

/-- THE SECOND FORM's CARD OF 'curfewlaw09.WheelNone'. -/
def wheelNoneUptoCard : Claim7 := { stood := { row := wheelNoneUptoRow, standIns := [], harness := (true, "c38a326f1b11728a04f8c3138df22135ea0c57f56445a82eef2d97be1032b663"), looks := false }, kinds := [], alts := [], laidByText := true, laidKinds := [.data], laidTests := true, laidLooks := .later }
def WheelNoneUptoCardSaid : Prop := Claim7.holds Tryd.pinned (.plain (OpenSpec.upto wheelNoneSpec)) wheelNoneUptoCard

/-- THE SECOND FORM's CARD OF 'curfewlaw09.WheelFull'. -/
def wheelFullUptoCard : Claim7 := { stood := { row := wheelFullUptoRow, standIns := [], harness := (true, "c38a326f1b11728a04f8c3138df22135ea0c57f56445a82eef2d97be1032b663"), looks := false }, kinds := [], alts := [], laidByText := true, laidKinds := [.data], laidTests := true, laidLooks := .later }
def WheelFullUptoCardSaid : Prop := Claim7.holds Tryd.pinned (.plain (OpenSpec.upto wheelFullSpec)) wheelFullUptoCard

/-- THE SECOND FORM's CARD OF 'curfewlaw09.WheelSteps'. -/
def wheelStepsUptoCard : Claim7 := { stood := { row := wheelStepsUptoRow, standIns := [], harness := (true, "c38a326f1b11728a04f8c3138df22135ea0c57f56445a82eef2d97be1032b663"), looks := false }, kinds := [], alts := [], laidByText := true, laidKinds := [.data], laidTests := true, laidLooks := .later }
def WheelStepsUptoCardSaid : Prop := Claim7.holds Tryd.pinned (.plain (OpenSpec.upto wheelStepsSpec)) wheelStepsUptoCard

/-- THE SECOND FORM's CARD OF 'curfewlaw09.WheelGoes'. -/
def wheelGoesUptoCard : Claim7 := { stood := { row := wheelGoesUptoRow, standIns := [], harness := (true, "c38a326f1b11728a04f8c3138df22135ea0c57f56445a82eef2d97be1032b663"), looks := false }, kinds := [], alts := [], laidByText := true, laidKinds := [.data], laidTests := true, laidLooks := .later }
def WheelGoesUptoCardSaid : Prop := Claim7.holds Tryd.pinned (.plain (OpenSpec.upto wheelGoesSpec)) wheelGoesUptoCard

/-- THE SECOND FORM's CARD OF 'curfewlaw09.WheelOrder'. -/
def wheelOrderUptoCard : Claim7 := { stood := { row := wheelOrderUptoRow, standIns := [], harness := (true, "c38a326f1b11728a04f8c3138df22135ea0c57f56445a82eef2d97be1032b663"), looks := false }, kinds := [], alts := [], laidByText := true, laidKinds := [.data], laidTests := true, laidLooks := .later }
def WheelOrderUptoCardSaid : Prop := Claim7.holds Tryd.pinned (.plain (OpenSpec.upto wheelOrderSpec)) wheelOrderUptoCard
end Rows
end Go.Proofs.YtdaaipndjhdliaaDoor
