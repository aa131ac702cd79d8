/-
  DERIVED. GIVEN WITH THE SEED: THE CARDS: each row of YtbammhmbapeboaaGreatDoorRows.lean that lists a variable, with what it lists TIED to the program's text (the seventh form; the later family's looks); each row that meets fmt, with fmt's text TOLD by the authors' own Lean function (tested against real Go, not proved from fmt's source: count such statements apart). THE CARD IS WHAT COUNTS. Prove the row's statement (the work); the ties are given (YtbammhmbapeboaaGreatDoorTie.lean); close each card by the builder's one call (the guide's Derived/Test/ToyasCard.lean, 'card_holds'). Laid BY PROGRAM, IN A SANDBOX (cutbox-door.mjs). By AI agents, Wed Nov 11 2026. No macro, syntax, notation, axiom, sorry.
-/
import Derived.Test.YtbammhmbapeboaaGreatDoorRows
import GoSem.ClaimSeven
namespace Go.Proofs.YtbammhmbapeboaaGreatDoor
namespace Rows

/-- THE TIED CARD OF 'curfewlaw14.SchedEffects'. -/
def schedEffectsCard : Claim7 := { stood := { row := schedEffectsRow, standIns := [], harness := (true, "5cb2086afa6ea676895a385f492af0e5767bc9a23c05cdc62c3559e07725d324"), looks := false }, kinds := [], alts := [], laidByText := true, laidKinds := [.data, .data, .data, .data, .data, .data, .pinned], laidTests := true, laidLooks := .later }
def SchedEffectsCardSaid : Prop := Claim7.holds Tryz.pinned (.plain (OpenSpec.ofChange schedEffectsSpec)) schedEffectsCard

/-- THE TIED CARD OF 'curfewlaw14.SchedMay'. -/
def schedMayCard : Claim7 := { stood := { row := schedMayRow, standIns := [], harness := (true, "5cb2086afa6ea676895a385f492af0e5767bc9a23c05cdc62c3559e07725d324"), looks := false }, kinds := [], alts := [], laidByText := true, laidKinds := [.data, .data, .data, .data, .data, .data, .pinned], laidTests := true, laidLooks := .later }
def SchedMayCardSaid : Prop := Claim7.holds Tryz.pinned (.plain (OpenSpec.ofChange schedMaySpec)) schedMayCard

/-- THE TIED CARD OF 'curfewlaw17.ModelFirst'. -/
def modelFirstCard : Claim7 := { stood := { row := modelFirstRow, standIns := [], harness := (true, "5cb2086afa6ea676895a385f492af0e5767bc9a23c05cdc62c3559e07725d324"), looks := false }, kinds := [], alts := [], laidByText := true, laidKinds := [.data, .data, .data, .data, .data, .data, .pinned], laidTests := true, laidLooks := .later }
def ModelFirstCardSaid : Prop := Claim7.holds Tryz.pinned (.plain (OpenSpec.ofChange modelFirstSpec)) modelFirstCard

/-- THE SECOND FORM's CARD OF 'curfewlaw14.SchedEffects'. -/
def schedEffectsUptoCard : Claim7 := { stood := { row := schedEffectsUptoRow, standIns := [], harness := (true, "5cb2086afa6ea676895a385f492af0e5767bc9a23c05cdc62c3559e07725d324"), looks := false }, kinds := [], alts := [], laidByText := true, laidKinds := [.data, .data, .data, .data, .data, .data, .pinned], laidTests := true, laidLooks := .later }
def SchedEffectsUptoCardSaid : Prop := Claim7.holds Tryz.pinned (.plain (OpenSpec.upto schedEffectsSpec)) schedEffectsUptoCard

/-- THE SECOND FORM's CARD OF 'curfewlaw14.SchedMay'. -/
def schedMayUptoCard : Claim7 := { stood := { row := schedMayUptoRow, standIns := [], harness := (true, "5cb2086afa6ea676895a385f492af0e5767bc9a23c05cdc62c3559e07725d324"), looks := false }, kinds := [], alts := [], laidByText := true, laidKinds := [.data, .data, .data, .data, .data, .data, .pinned], laidTests := true, laidLooks := .later }
def SchedMayUptoCardSaid : Prop := Claim7.holds Tryz.pinned (.plain (OpenSpec.upto schedMaySpec)) schedMayUptoCard

/-- THE SECOND FORM's CARD OF 'curfewlaw17.ModelFirst'. -/
def modelFirstUptoCard : Claim7 := { stood := { row := modelFirstUptoRow, standIns := [], harness := (true, "5cb2086afa6ea676895a385f492af0e5767bc9a23c05cdc62c3559e07725d324"), looks := false }, kinds := [], alts := [], laidByText := true, laidKinds := [.data, .data, .data, .data, .data, .data, .pinned], laidTests := true, laidLooks := .later }
def ModelFirstUptoCardSaid : Prop := Claim7.holds Tryz.pinned (.plain (OpenSpec.upto modelFirstSpec)) modelFirstUptoCard
end Rows
end Go.Proofs.YtbammhmbapeboaaGreatDoor
