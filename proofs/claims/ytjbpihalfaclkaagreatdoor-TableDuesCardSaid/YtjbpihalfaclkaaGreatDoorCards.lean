/-
  DERIVED. GIVEN WITH THE SEED: THE CARDS: each row of YtjbpihalfaclkaaGreatDoorRows.lean that lists a variable, with what it lists TIED to the program's text (the seventh form; the later family's looks); each row that meets fmt, with fmt's text TOLD by the authors' own Lean function (tested against real Go, not proved from fmt's source: count such statements apart). THE CARD IS WHAT COUNTS. Prove the row's statement (the work); the ties are given (YtjbpihalfaclkaaGreatDoorTie.lean); close each card by the builder's one call (the guide's Derived/Test/ToyasCard.lean, 'card_holds'). Laid BY PROGRAM, IN A SANDBOX (cutbox-door.mjs). By AI agents, Wed Nov 11 2026. No macro, syntax, notation, axiom, sorry.
-/
import Derived.Test.YtjbpihalfaclkaaGreatDoorRows
import GoSem.ClaimSeven
namespace Go.Proofs.YtjbpihalfaclkaaGreatDoor
namespace Rows

/-- THE TIED CARD OF 'curfewlaw10.JobSays'. -/
def jobSaysCard : Claim7 := { stood := { row := jobSaysRow, standIns := [], harness := (true, "594299b2fac281410a7d4bf308edc7c63cacce2bf0fb6389624d44ae09eec2da"), looks := false }, kinds := [], alts := [], laidByText := true, laidKinds := [.data, .data, .data, .data, .data, .data, .pinned], laidTests := true, laidLooks := .later }
def JobSaysCardSaid : Prop := Claim7.holds Tryz.pinned (.plain (OpenSpec.ofChange jobSaysSpec)) jobSaysCard

/-- THE TIED CARD OF 'curfewlaw10.JobTimes'. -/
def jobTimesCard : Claim7 := { stood := { row := jobTimesRow, standIns := [], harness := (true, "594299b2fac281410a7d4bf308edc7c63cacce2bf0fb6389624d44ae09eec2da"), looks := false }, kinds := [], alts := [], laidByText := true, laidKinds := [.data, .data, .data, .data, .data, .data, .pinned], laidTests := true, laidLooks := .later }
def JobTimesCardSaid : Prop := Claim7.holds Tryz.pinned (.plain (OpenSpec.ofChange jobTimesSpec)) jobTimesCard

/-- THE TIED CARD OF 'curfewlaw10.JobEnds'. -/
def jobEndsCard : Claim7 := { stood := { row := jobEndsRow, standIns := [], harness := (true, "594299b2fac281410a7d4bf308edc7c63cacce2bf0fb6389624d44ae09eec2da"), looks := false }, kinds := [], alts := [], laidByText := true, laidKinds := [.data, .data, .data, .data, .data, .data, .pinned], laidTests := true, laidLooks := .later }
def JobEndsCardSaid : Prop := Claim7.holds Tryz.pinned (.plain (OpenSpec.ofChange jobEndsSpec)) jobEndsCard

/-- THE TIED CARD OF 'curfewlaw10.JobCron'. -/
def jobCronCard : Claim7 := { stood := { row := jobCronRow, standIns := [], harness := (true, "594299b2fac281410a7d4bf308edc7c63cacce2bf0fb6389624d44ae09eec2da"), looks := false }, kinds := [], alts := [], laidByText := true, laidKinds := [.data, .data, .data, .data, .data, .data, .pinned], laidTests := true, laidLooks := .later }
def JobCronCardSaid : Prop := Claim7.holds Tryz.pinned (.plain (OpenSpec.ofChange jobCronSpec)) jobCronCard

/-- THE TIED CARD OF 'curfewlaw11.TableDues'. -/
def tableDuesCard : Claim7 := { stood := { row := tableDuesRow, standIns := [], harness := (true, "594299b2fac281410a7d4bf308edc7c63cacce2bf0fb6389624d44ae09eec2da"), looks := false }, kinds := [], alts := [], laidByText := true, laidKinds := [.data, .data, .data], laidTests := true, laidLooks := .later }
def TableDuesCardSaid : Prop := Claim7.holds Tryz.pinned (.plain (OpenSpec.ofChange tableDuesSpec)) tableDuesCard

/-- THE TIED CARD OF 'curfewlaw11.TableBack'. -/
def tableBackCard : Claim7 := { stood := { row := tableBackRow, standIns := [], harness := (true, "594299b2fac281410a7d4bf308edc7c63cacce2bf0fb6389624d44ae09eec2da"), looks := false }, kinds := [], alts := [], laidByText := true, laidKinds := [.data, .data, .data], laidTests := true, laidLooks := .later }
def TableBackCardSaid : Prop := Claim7.holds Tryz.pinned (.plain (OpenSpec.ofChange tableBackSpec)) tableBackCard

/-- THE TIED CARD OF 'curfewlaw07.CronReads'. -/
def cronReadsCard : Claim7 := { stood := { row := cronReadsRow, standIns := [], harness := (true, "594299b2fac281410a7d4bf308edc7c63cacce2bf0fb6389624d44ae09eec2da"), looks := false }, kinds := [], alts := [], laidByText := true, laidKinds := [.data, .data, .data, .data, .data, .data, .data, .data, .pinned], laidTests := true, laidLooks := .later }
def CronReadsCardSaid : Prop := Claim7.holds Tryz.pinned (.plain (OpenSpec.ofChange cronReadsSpec)) cronReadsCard

/-- THE TIED CARD OF 'curfewlaw07.CronTells'. -/
def cronTellsCard : Claim7 := { stood := { row := cronTellsRow, standIns := [], harness := (true, "594299b2fac281410a7d4bf308edc7c63cacce2bf0fb6389624d44ae09eec2da"), looks := false }, kinds := [], alts := [], laidByText := true, laidKinds := [.data, .data, .data, .data, .data, .data, .data, .data, .pinned], laidTests := true, laidLooks := .later }
def CronTellsCardSaid : Prop := Claim7.holds Tryz.pinned (.plain (OpenSpec.ofChange cronTellsSpec)) cronTellsCard

/-- THE TIED CARD OF 'curfewlaw07.CronFits'. -/
def cronFitsCard : Claim7 := { stood := { row := cronFitsRow, standIns := [], harness := (true, "594299b2fac281410a7d4bf308edc7c63cacce2bf0fb6389624d44ae09eec2da"), looks := false }, kinds := [], alts := [], laidByText := true, laidKinds := [.data, .data, .data, .data, .data, .data, .data, .data, .pinned], laidTests := true, laidLooks := .later }
def CronFitsCardSaid : Prop := Claim7.holds Tryz.pinned (.plain (OpenSpec.ofChange cronFitsSpec)) cronFitsCard

/-- THE TIED CARD OF 'curfewlaw07.CronMore'. -/
def cronMoreCard : Claim7 := { stood := { row := cronMoreRow, standIns := [], harness := (true, "594299b2fac281410a7d4bf308edc7c63cacce2bf0fb6389624d44ae09eec2da"), looks := false }, kinds := [], alts := [], laidByText := true, laidKinds := [.data, .data, .data, .data, .data, .data, .data, .data, .pinned], laidTests := true, laidLooks := .later }
def CronMoreCardSaid : Prop := Claim7.holds Tryz.pinned (.plain (OpenSpec.ofChange cronMoreSpec)) cronMoreCard

/-- THE TIED CARD OF 'curfewlaw07.CronDays'. -/
def cronDaysCard : Claim7 := { stood := { row := cronDaysRow, standIns := [], harness := (true, "594299b2fac281410a7d4bf308edc7c63cacce2bf0fb6389624d44ae09eec2da"), looks := false }, kinds := [], alts := [], laidByText := true, laidKinds := [.data, .data, .data, .data, .data, .data, .data, .data, .pinned], laidTests := true, laidLooks := .later }
def CronDaysCardSaid : Prop := Claim7.holds Tryz.pinned (.plain (OpenSpec.ofChange cronDaysSpec)) cronDaysCard

/-- THE TIED CARD OF 'curfewlaw07.CronBack'. -/
def cronBackCard : Claim7 := { stood := { row := cronBackRow, standIns := [], harness := (true, "594299b2fac281410a7d4bf308edc7c63cacce2bf0fb6389624d44ae09eec2da"), looks := false }, kinds := [], alts := [], laidByText := true, laidKinds := [.data, .data, .data, .data, .data, .data, .data, .data, .pinned], laidTests := true, laidLooks := .later }
def CronBackCardSaid : Prop := Claim7.holds Tryz.pinned (.plain (OpenSpec.ofChange cronBackSpec)) cronBackCard

/-- THE SECOND FORM's CARD OF 'curfewlaw10.JobSays'. -/
def jobSaysUptoCard : Claim7 := { stood := { row := jobSaysUptoRow, standIns := [], harness := (true, "594299b2fac281410a7d4bf308edc7c63cacce2bf0fb6389624d44ae09eec2da"), looks := false }, kinds := [], alts := [], laidByText := true, laidKinds := [.data, .data, .data, .data, .data, .data, .pinned], laidTests := true, laidLooks := .later }
def JobSaysUptoCardSaid : Prop := Claim7.holds Tryz.pinned (.plain (OpenSpec.upto jobSaysSpec)) jobSaysUptoCard

/-- THE SECOND FORM's CARD OF 'curfewlaw10.JobTimes'. -/
def jobTimesUptoCard : Claim7 := { stood := { row := jobTimesUptoRow, standIns := [], harness := (true, "594299b2fac281410a7d4bf308edc7c63cacce2bf0fb6389624d44ae09eec2da"), looks := false }, kinds := [], alts := [], laidByText := true, laidKinds := [.data, .data, .data, .data, .data, .data, .pinned], laidTests := true, laidLooks := .later }
def JobTimesUptoCardSaid : Prop := Claim7.holds Tryz.pinned (.plain (OpenSpec.upto jobTimesSpec)) jobTimesUptoCard

/-- THE SECOND FORM's CARD OF 'curfewlaw10.JobEnds'. -/
def jobEndsUptoCard : Claim7 := { stood := { row := jobEndsUptoRow, standIns := [], harness := (true, "594299b2fac281410a7d4bf308edc7c63cacce2bf0fb6389624d44ae09eec2da"), looks := false }, kinds := [], alts := [], laidByText := true, laidKinds := [.data, .data, .data, .data, .data, .data, .pinned], laidTests := true, laidLooks := .later }
def JobEndsUptoCardSaid : Prop := Claim7.holds Tryz.pinned (.plain (OpenSpec.upto jobEndsSpec)) jobEndsUptoCard

/-- THE SECOND FORM's CARD OF 'curfewlaw10.JobCron'. -/
def jobCronUptoCard : Claim7 := { stood := { row := jobCronUptoRow, standIns := [], harness := (true, "594299b2fac281410a7d4bf308edc7c63cacce2bf0fb6389624d44ae09eec2da"), looks := false }, kinds := [], alts := [], laidByText := true, laidKinds := [.data, .data, .data, .data, .data, .data, .pinned], laidTests := true, laidLooks := .later }
def JobCronUptoCardSaid : Prop := Claim7.holds Tryz.pinned (.plain (OpenSpec.upto jobCronSpec)) jobCronUptoCard

/-- THE SECOND FORM's CARD OF 'curfewlaw11.TableDues'. -/
def tableDuesUptoCard : Claim7 := { stood := { row := tableDuesUptoRow, standIns := [], harness := (true, "594299b2fac281410a7d4bf308edc7c63cacce2bf0fb6389624d44ae09eec2da"), looks := false }, kinds := [], alts := [], laidByText := true, laidKinds := [.data, .data, .data], laidTests := true, laidLooks := .later }
def TableDuesUptoCardSaid : Prop := Claim7.holds Tryz.pinned (.plain (OpenSpec.upto tableDuesSpec)) tableDuesUptoCard

/-- THE SECOND FORM's CARD OF 'curfewlaw11.TableBack'. -/
def tableBackUptoCard : Claim7 := { stood := { row := tableBackUptoRow, standIns := [], harness := (true, "594299b2fac281410a7d4bf308edc7c63cacce2bf0fb6389624d44ae09eec2da"), looks := false }, kinds := [], alts := [], laidByText := true, laidKinds := [.data, .data, .data], laidTests := true, laidLooks := .later }
def TableBackUptoCardSaid : Prop := Claim7.holds Tryz.pinned (.plain (OpenSpec.upto tableBackSpec)) tableBackUptoCard

/-- THE SECOND FORM's CARD OF 'curfewlaw07.CronReads'. -/
def cronReadsUptoCard : Claim7 := { stood := { row := cronReadsUptoRow, standIns := [], harness := (true, "594299b2fac281410a7d4bf308edc7c63cacce2bf0fb6389624d44ae09eec2da"), looks := false }, kinds := [], alts := [], laidByText := true, laidKinds := [.data, .data, .data, .data, .data, .data, .data, .data, .pinned], laidTests := true, laidLooks := .later }
def CronReadsUptoCardSaid : Prop := Claim7.holds Tryz.pinned (.plain (OpenSpec.upto cronReadsSpec)) cronReadsUptoCard

/-- THE SECOND FORM's CARD OF 'curfewlaw07.CronTells'. -/
def cronTellsUptoCard : Claim7 := { stood := { row := cronTellsUptoRow, standIns := [], harness := (true, "594299b2fac281410a7d4bf308edc7c63cacce2bf0fb6389624d44ae09eec2da"), looks := false }, kinds := [], alts := [], laidByText := true, laidKinds := [.data, .data, .data, .data, .data, .data, .data, .data, .pinned], laidTests := true, laidLooks := .later }
def CronTellsUptoCardSaid : Prop := Claim7.holds Tryz.pinned (.plain (OpenSpec.upto cronTellsSpec)) cronTellsUptoCard

/-- THE SECOND FORM's CARD OF 'curfewlaw07.CronFits'. -/
def cronFitsUptoCard : Claim7 := { stood := { row := cronFitsUptoRow, standIns := [], harness := (true, "594299b2fac281410a7d4bf308edc7c63cacce2bf0fb6389624d44ae09eec2da"), looks := false }, kinds := [], alts := [], laidByText := true, laidKinds := [.data, .data, .data, .data, .data, .data, .data, .data, .pinned], laidTests := true, laidLooks := .later }
def CronFitsUptoCardSaid : Prop := Claim7.holds Tryz.pinned (.plain (OpenSpec.upto cronFitsSpec)) cronFitsUptoCard

/-- THE SECOND FORM's CARD OF 'curfewlaw07.CronMore'. -/
def cronMoreUptoCard : Claim7 := { stood := { row := cronMoreUptoRow, standIns := [], harness := (true, "594299b2fac281410a7d4bf308edc7c63cacce2bf0fb6389624d44ae09eec2da"), looks := false }, kinds := [], alts := [], laidByText := true, laidKinds := [.data, .data, .data, .data, .data, .data, .data, .data, .pinned], laidTests := true, laidLooks := .later }
def CronMoreUptoCardSaid : Prop := Claim7.holds Tryz.pinned (.plain (OpenSpec.upto cronMoreSpec)) cronMoreUptoCard

/-- THE SECOND FORM's CARD OF 'curfewlaw07.CronDays'. -/
def cronDaysUptoCard : Claim7 := { stood := { row := cronDaysUptoRow, standIns := [], harness := (true, "594299b2fac281410a7d4bf308edc7c63cacce2bf0fb6389624d44ae09eec2da"), looks := false }, kinds := [], alts := [], laidByText := true, laidKinds := [.data, .data, .data, .data, .data, .data, .data, .data, .pinned], laidTests := true, laidLooks := .later }
def CronDaysUptoCardSaid : Prop := Claim7.holds Tryz.pinned (.plain (OpenSpec.upto cronDaysSpec)) cronDaysUptoCard

/-- THE SECOND FORM's CARD OF 'curfewlaw07.CronBack'. -/
def cronBackUptoCard : Claim7 := { stood := { row := cronBackUptoRow, standIns := [], harness := (true, "594299b2fac281410a7d4bf308edc7c63cacce2bf0fb6389624d44ae09eec2da"), looks := false }, kinds := [], alts := [], laidByText := true, laidKinds := [.data, .data, .data, .data, .data, .data, .data, .data, .pinned], laidTests := true, laidLooks := .later }
def CronBackUptoCardSaid : Prop := Claim7.holds Tryz.pinned (.plain (OpenSpec.upto cronBackSpec)) cronBackUptoCard
end Rows
end Go.Proofs.YtjbpihalfaclkaaGreatDoor
