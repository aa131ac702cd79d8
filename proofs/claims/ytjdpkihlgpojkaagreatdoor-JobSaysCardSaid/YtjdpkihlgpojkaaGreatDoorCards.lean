/-
  DERIVED. GIVEN WITH THE SEED: THE CARDS: each row of YtjdpkihlgpojkaaGreatDoorRows.lean that lists a variable, with what it lists TIED to the program's text (the seventh form; the later family's looks); each row that meets fmt, with fmt's text TOLD by the authors' own Lean function (tested against real Go, not proved from fmt's source: count such statements apart). THE CARD IS WHAT COUNTS. Prove the row's statement (the work); the ties are given (YtjdpkihlgpojkaaGreatDoorTie.lean); close each card by the builder's one call (the guide's Derived/Test/ToyasCard.lean, 'card_holds'). Laid BY PROGRAM, IN A SANDBOX (cutbox-door.mjs). By AI agents, Wed Nov 11 2026. No macro, syntax, notation, axiom, sorry.
-/
import Derived.Test.YtjdpkihlgpojkaaGreatDoorRows
import GoSem.ClaimSeven
namespace Go.Proofs.YtjdpkihlgpojkaaGreatDoor
namespace Rows

/-- THE TIED CARD OF 'curfewlaw10.JobSays'. -/
def jobSaysCard : Claim7 := { stood := { row := jobSaysRow, standIns := [], harness := (true, "6f542f1da2bb4c6fec98d85f03f5dd978d5a78d1a61b09541c4dd98f1495698d"), looks := false }, kinds := [], alts := [], laidByText := true, laidKinds := [.data, .data, .data, .data, .data, .data, .pinned], laidTests := true, laidLooks := .later }
def JobSaysCardSaid : Prop := Claim7.holds Tryz.pinned (.plain (OpenSpec.ofChange jobSaysSpec)) jobSaysCard

/-- THE SECOND FORM's CARD OF 'curfewlaw10.JobSays'. -/
def jobSaysUptoCard : Claim7 := { stood := { row := jobSaysUptoRow, standIns := [], harness := (true, "6f542f1da2bb4c6fec98d85f03f5dd978d5a78d1a61b09541c4dd98f1495698d"), looks := false }, kinds := [], alts := [], laidByText := true, laidKinds := [.data, .data, .data, .data, .data, .data, .pinned], laidTests := true, laidLooks := .later }
def JobSaysUptoCardSaid : Prop := Claim7.holds Tryz.pinned (.plain (OpenSpec.upto jobSaysSpec)) jobSaysUptoCard
end Rows
end Go.Proofs.YtjdpkihlgpojkaaGreatDoor
