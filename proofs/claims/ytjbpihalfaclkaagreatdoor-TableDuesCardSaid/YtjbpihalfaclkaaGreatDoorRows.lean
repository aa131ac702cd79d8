/-
  NARROWER THAN 'FOR EVERY INPUT', by the rows' own cells (each row's printed sentence says how): JobSays: laid · JobTimes: laid · JobEnds: laid · JobCron: laid · TableDues: laid · TableBack: laid · CronReads: laid · CronTells: laid · CronFits: laid · CronMore: laid · CronDays: laid · CronBack: laid.
  DERIVED. THE GIVEN ROWS OF THIS SEAT. 12 by the template 'for every input the law returns true; each argument reads behind the call as it read before'; 0 by the template 'total and deterministic' (their statements: YtjbpihalfaclkaaGreatDoorTotals.lean).
  GIVEN WITH THE SEED: the statements are not yours to turn. If you find one false, say at which input.
  Laid BY PROGRAM, IN A SANDBOX (cutbox-rows.mjs): the forced cells as the released guide's own fill.sh prints them over the translation 722675b17c57175f… (all of the seat's roots in one cut). By AI agents, Wed Nov 11 2026. No macro, syntax, notation, axiom, sorry.
-/
import Derived.Test.YtjbpihalfaclkaaGreatDoorChecked
import GoSem.PinnedTables
import GoSem.Claim
import GoSem.ClaimJoined
import GoSem.ClaimMapViews
import Derived.JoinedTies
import Derived.KernelRfl
namespace Go.Proofs.YtjbpihalfaclkaaGreatDoor
/- THE CELL 'sum', in the pinned program and in every row, IS THE sha256 OF THE DUMP (.gsa) THAT YtjbpihalfaclkaaGreatDoorProg.lean LOADS. Nothing in Lean hashes anything: it is a label: what it is worth is what the hold of that sum in a sandbox is worth. -/
noncomputable def Tryz.pinned : Pinned := { name := "ytjbpihalfaclkaagreatdoor", sum := "722675b17c57175f92c9c30a8b94d30b1d642f72d59f99274b6c04a5420220a5", checked := Tryz.checked }
namespace Rows
def none {H : Type} : Left H := { results := [], args := [] }

/- WHAT THE LISTED PACKAGE-LEVEL VARIABLES READ AS WHEN THE CALL BEGINS. Each datum BY PROGRAM (the guide's laid-datum.mjs) off the statement by which the dump's own 'gosem.cut.vars' lays the variable. In a bare row this is a premise. The card (YtjbpihalfaclkaaGreatDoorCards.lean) ties it to the program's text. -/
def laid_curfew_days_long {H : Type} : DataW H := .agg [.lit (.int .i64 0), .lit (.int .i64 31), .lit (.int .i64 28), .lit (.int .i64 31), .lit (.int .i64 30), .lit (.int .i64 31), .lit (.int .i64 30), .lit (.int .i64 31), .lit (.int .i64 31), .lit (.int .i64 30), .lit (.int .i64 31), .lit (.int .i64 30), .lit (.int .i64 31)]
def laid_math_bits_deBruijn64tab {H : Type} : DataW H := .agg [.lit (.int .u8 0), .lit (.int .u8 1), .lit (.int .u8 56), .lit (.int .u8 2), .lit (.int .u8 57), .lit (.int .u8 49), .lit (.int .u8 28), .lit (.int .u8 3), .lit (.int .u8 61), .lit (.int .u8 58), .lit (.int .u8 42), .lit (.int .u8 50), .lit (.int .u8 38), .lit (.int .u8 29), .lit (.int .u8 17), .lit (.int .u8 4), .lit (.int .u8 62), .lit (.int .u8 47), .lit (.int .u8 59), .lit (.int .u8 36), .lit (.int .u8 45), .lit (.int .u8 43), .lit (.int .u8 51), .lit (.int .u8 22), .lit (.int .u8 53), .lit (.int .u8 39), .lit (.int .u8 33), .lit (.int .u8 30), .lit (.int .u8 24), .lit (.int .u8 18), .lit (.int .u8 12), .lit (.int .u8 5), .lit (.int .u8 63), .lit (.int .u8 55), .lit (.int .u8 48), .lit (.int .u8 27), .lit (.int .u8 60), .lit (.int .u8 41), .lit (.int .u8 37), .lit (.int .u8 16), .lit (.int .u8 46), .lit (.int .u8 35), .lit (.int .u8 44), .lit (.int .u8 21), .lit (.int .u8 52), .lit (.int .u8 32), .lit (.int .u8 23), .lit (.int .u8 11), .lit (.int .u8 54), .lit (.int .u8 26), .lit (.int .u8 40), .lit (.int .u8 15), .lit (.int .u8 34), .lit (.int .u8 20), .lit (.int .u8 31), .lit (.int .u8 10), .lit (.int .u8 25), .lit (.int .u8 14), .lit (.int .u8 19), .lit (.int .u8 9), .lit (.int .u8 13), .lit (.int .u8 8), .lit (.int .u8 7), .lit (.int .u8 6)]
def laid_unicode_utf8_acceptRanges {H : Type} : DataW H := .agg [.agg [.lit (.int .u8 128), .lit (.int .u8 191)], .agg [.lit (.int .u8 160), .lit (.int .u8 191)], .agg [.lit (.int .u8 128), .lit (.int .u8 159)], .agg [.lit (.int .u8 144), .lit (.int .u8 191)], .agg [.lit (.int .u8 128), .lit (.int .u8 143)], .agg [.lit (.int .u8 0), .lit (.int .u8 0)], .agg [.lit (.int .u8 0), .lit (.int .u8 0)], .agg [.lit (.int .u8 0), .lit (.int .u8 0)], .agg [.lit (.int .u8 0), .lit (.int .u8 0)], .agg [.lit (.int .u8 0), .lit (.int .u8 0)], .agg [.lit (.int .u8 0), .lit (.int .u8 0)], .agg [.lit (.int .u8 0), .lit (.int .u8 0)], .agg [.lit (.int .u8 0), .lit (.int .u8 0)], .agg [.lit (.int .u8 0), .lit (.int .u8 0)], .agg [.lit (.int .u8 0), .lit (.int .u8 0)], .agg [.lit (.int .u8 0), .lit (.int .u8 0)]]
def laid_curfew_field_ends {H : Type} : DataW H := .agg [.agg [.lit (.int .i64 0), .lit (.int .i64 59)], .agg [.lit (.int .i64 0), .lit (.int .i64 23)], .agg [.lit (.int .i64 1), .lit (.int .i64 31)], .agg [.lit (.int .i64 1), .lit (.int .i64 12)], .agg [.lit (.int .i64 0), .lit (.int .i64 6)]]
def laid_curfew_field_names {H : Type} : DataW H := .agg [.lit (.string []), .lit (.string []), .lit (.string []), .lit (.string [74, 65, 78, 70, 69, 66, 77, 65, 82, 65, 80, 82, 77, 65, 89, 74, 85, 78, 74, 85, 76, 65, 85, 71, 83, 69, 80, 79, 67, 84, 78, 79, 86, 68, 69, 67]), .lit (.string [83, 85, 78, 77, 79, 78, 84, 85, 69, 87, 69, 68, 84, 72, 85, 70, 82, 73, 83, 65, 84])]
def laid_curfew_cron_macros {H : Type} : DataW H := .agg [.agg [.lit (.string [64, 121, 101, 97, 114, 108, 121]), .lit (.string [48, 32, 48, 32, 49, 32, 49, 32, 42])], .agg [.lit (.string [64, 97, 110, 110, 117, 97, 108, 108, 121]), .lit (.string [48, 32, 48, 32, 49, 32, 49, 32, 42])], .agg [.lit (.string [64, 109, 111, 110, 116, 104, 108, 121]), .lit (.string [48, 32, 48, 32, 49, 32, 42, 32, 42])], .agg [.lit (.string [64, 119, 101, 101, 107, 108, 121]), .lit (.string [48, 32, 48, 32, 42, 32, 42, 32, 48])], .agg [.lit (.string [64, 100, 97, 105, 108, 121]), .lit (.string [48, 32, 48, 32, 42, 32, 42, 32, 42])], .agg [.lit (.string [64, 109, 105, 100, 110, 105, 103, 104, 116]), .lit (.string [48, 32, 48, 32, 42, 32, 42, 32, 42])], .agg [.lit (.string [64, 104, 111, 117, 114, 108, 121]), .lit (.string [48, 32, 42, 32, 42, 32, 42, 32, 42])]]
/-- One of Go's own tables, pinned by name: the form's constant. -/
def laid_unicode_utf8_first : DataW Unit := Go.Pinned.utf8First
def laid_math_bits_deBruijn32tab {H : Type} : DataW H := .agg [.lit (.int .u8 0), .lit (.int .u8 1), .lit (.int .u8 28), .lit (.int .u8 2), .lit (.int .u8 29), .lit (.int .u8 14), .lit (.int .u8 24), .lit (.int .u8 3), .lit (.int .u8 30), .lit (.int .u8 22), .lit (.int .u8 20), .lit (.int .u8 15), .lit (.int .u8 25), .lit (.int .u8 17), .lit (.int .u8 4), .lit (.int .u8 8), .lit (.int .u8 31), .lit (.int .u8 27), .lit (.int .u8 13), .lit (.int .u8 23), .lit (.int .u8 21), .lit (.int .u8 19), .lit (.int .u8 16), .lit (.int .u8 7), .lit (.int .u8 26), .lit (.int .u8 12), .lit (.int .u8 18), .lit (.int .u8 6), .lit (.int .u8 11), .lit (.int .u8 5), .lit (.int .u8 10), .lit (.int .u8 9)]
def laid_internal_strconv_uint64pow10 {H : Type} : DataW H := .agg [.lit (.int .u64 1), .lit (.int .u64 10), .lit (.int .u64 100), .lit (.int .u64 1000), .lit (.int .u64 10000), .lit (.int .u64 100000), .lit (.int .u64 1000000), .lit (.int .u64 10000000), .lit (.int .u64 100000000), .lit (.int .u64 1000000000), .lit (.int .u64 10000000000), .lit (.int .u64 100000000000), .lit (.int .u64 1000000000000), .lit (.int .u64 10000000000000), .lit (.int .u64 100000000000000), .lit (.int .u64 1000000000000000), .lit (.int .u64 10000000000000000), .lit (.int .u64 100000000000000000), .lit (.int .u64 1000000000000000000), .lit (.int .u64 10000000000000000000)]

/-- 'curfewlaw10.JobSays': WHATEVER THE INPUT: true; the input reads as it did. -/
def jobSaysSpec : ChangeSpec := { name := "jobSays", fn := fun _ => fun
  | [d] => { results := [.lit (.bool true)], args := [d] }
  | _ => none }
def jobSaysRow : OpenClaim := { program := "ytjbpihalfaclkaagreatdoor", sum := "722675b17c57175f92c9c30a8b94d30b1d642f72d59f99274b6c04a5420220a5", func := "curfew/curfewlaw10.JobSays", spec := "jobSays", inPlace := ["internal/bytealg.IndexByteString", "internal/bytealg.IndexString", "internal/bytealg.CountString", "internal/abi.NoEscape"], unfollowed := true, recurses := true, named := ["curfew/field.ends", "curfew/days.long", "math/bits.deBruijn64tab", "unicode/utf8.first", "unicode/utf8.acceptRanges", "internal/bytealg.MaxLen", "curfew/cron.macros", "curfew/field.names"], apart := false, laid := [("curfew/days.long", laid_curfew_days_long), ("math/bits.deBruijn64tab", laid_math_bits_deBruijn64tab), ("unicode/utf8.acceptRanges", laid_unicode_utf8_acceptRanges), ("curfew/field.ends", laid_curfew_field_ends), ("curfew/field.names", laid_curfew_field_names), ("curfew/cron.macros", laid_curfew_cron_macros), ("unicode/utf8.first", laid_unicode_utf8_first)] }
def JobSaysSaid : Prop := jobSaysRow.holds Tryz.pinned (OpenSpec.ofChange jobSaysSpec)

/-- ITS FALSE NEIGHBOUR: 'it returns false'. Refute it at one input. -/
def jobSaysWrong : ChangeSpec := { name := "jobSays", fn := fun _ => fun
  | [d] => { results := [.lit (.bool false)], args := [d] }
  | _ => none }
def JobSaysWrongFalsely : Prop := jobSaysRow.holds Tryz.pinned (OpenSpec.ofChange jobSaysWrong)

/-- 'curfewlaw10.JobTimes': WHATEVER THE INPUT: true; the input reads as it did. -/
def jobTimesSpec : ChangeSpec := { name := "jobTimes", fn := fun _ => fun
  | [d1, d2, d3] => { results := [.lit (.bool true)], args := [d1, d2, d3] }
  | _ => none }
def jobTimesRow : OpenClaim := { program := "ytjbpihalfaclkaagreatdoor", sum := "722675b17c57175f92c9c30a8b94d30b1d642f72d59f99274b6c04a5420220a5", func := "curfew/curfewlaw10.JobTimes", spec := "jobTimes", inPlace := ["internal/bytealg.IndexByteString", "internal/bytealg.IndexString", "internal/bytealg.CountString", "internal/abi.NoEscape"], unfollowed := true, recurses := true, named := ["curfew/field.ends", "curfew/days.long", "math/bits.deBruijn64tab", "unicode/utf8.first", "unicode/utf8.acceptRanges", "internal/bytealg.MaxLen", "curfew/cron.macros", "curfew/field.names"], apart := false, laid := [("curfew/days.long", laid_curfew_days_long), ("math/bits.deBruijn64tab", laid_math_bits_deBruijn64tab), ("unicode/utf8.acceptRanges", laid_unicode_utf8_acceptRanges), ("curfew/field.ends", laid_curfew_field_ends), ("curfew/field.names", laid_curfew_field_names), ("curfew/cron.macros", laid_curfew_cron_macros), ("unicode/utf8.first", laid_unicode_utf8_first)] }
def JobTimesSaid : Prop := jobTimesRow.holds Tryz.pinned (OpenSpec.ofChange jobTimesSpec)

/-- ITS FALSE NEIGHBOUR: 'it returns false'. Refute it at one input. -/
def jobTimesWrong : ChangeSpec := { name := "jobTimes", fn := fun _ => fun
  | [d1, d2, d3] => { results := [.lit (.bool false)], args := [d1, d2, d3] }
  | _ => none }
def JobTimesWrongFalsely : Prop := jobTimesRow.holds Tryz.pinned (OpenSpec.ofChange jobTimesWrong)

/-- 'curfewlaw10.JobEnds': WHATEVER THE INPUT: true; the input reads as it did. -/
def jobEndsSpec : ChangeSpec := { name := "jobEnds", fn := fun _ => fun
  | [d1, d2] => { results := [.lit (.bool true)], args := [d1, d2] }
  | _ => none }
def jobEndsRow : OpenClaim := { program := "ytjbpihalfaclkaagreatdoor", sum := "722675b17c57175f92c9c30a8b94d30b1d642f72d59f99274b6c04a5420220a5", func := "curfew/curfewlaw10.JobEnds", spec := "jobEnds", inPlace := ["internal/bytealg.IndexByteString", "internal/bytealg.IndexString", "internal/bytealg.CountString", "internal/abi.NoEscape"], unfollowed := true, recurses := true, named := ["curfew/field.ends", "curfew/days.long", "math/bits.deBruijn64tab", "unicode/utf8.first", "unicode/utf8.acceptRanges", "internal/bytealg.MaxLen", "curfew/cron.macros", "curfew/field.names"], apart := false, laid := [("curfew/days.long", laid_curfew_days_long), ("math/bits.deBruijn64tab", laid_math_bits_deBruijn64tab), ("unicode/utf8.acceptRanges", laid_unicode_utf8_acceptRanges), ("curfew/field.ends", laid_curfew_field_ends), ("curfew/field.names", laid_curfew_field_names), ("curfew/cron.macros", laid_curfew_cron_macros), ("unicode/utf8.first", laid_unicode_utf8_first)] }
def JobEndsSaid : Prop := jobEndsRow.holds Tryz.pinned (OpenSpec.ofChange jobEndsSpec)

/-- ITS FALSE NEIGHBOUR: 'it returns false'. Refute it at one input. -/
def jobEndsWrong : ChangeSpec := { name := "jobEnds", fn := fun _ => fun
  | [d1, d2] => { results := [.lit (.bool false)], args := [d1, d2] }
  | _ => none }
def JobEndsWrongFalsely : Prop := jobEndsRow.holds Tryz.pinned (OpenSpec.ofChange jobEndsWrong)

/-- 'curfewlaw10.JobCron': WHATEVER THE INPUT: true; the input reads as it did. -/
def jobCronSpec : ChangeSpec := { name := "jobCron", fn := fun _ => fun
  | [d1, d2] => { results := [.lit (.bool true)], args := [d1, d2] }
  | _ => none }
def jobCronRow : OpenClaim := { program := "ytjbpihalfaclkaagreatdoor", sum := "722675b17c57175f92c9c30a8b94d30b1d642f72d59f99274b6c04a5420220a5", func := "curfew/curfewlaw10.JobCron", spec := "jobCron", inPlace := ["internal/bytealg.IndexByteString", "internal/bytealg.IndexString", "internal/bytealg.CountString", "internal/abi.NoEscape"], unfollowed := true, recurses := true, named := ["curfew/field.ends", "curfew/days.long", "math/bits.deBruijn64tab", "unicode/utf8.first", "unicode/utf8.acceptRanges", "internal/bytealg.MaxLen", "curfew/cron.macros", "curfew/field.names"], apart := false, laid := [("curfew/days.long", laid_curfew_days_long), ("math/bits.deBruijn64tab", laid_math_bits_deBruijn64tab), ("unicode/utf8.acceptRanges", laid_unicode_utf8_acceptRanges), ("curfew/field.ends", laid_curfew_field_ends), ("curfew/field.names", laid_curfew_field_names), ("curfew/cron.macros", laid_curfew_cron_macros), ("unicode/utf8.first", laid_unicode_utf8_first)] }
def JobCronSaid : Prop := jobCronRow.holds Tryz.pinned (OpenSpec.ofChange jobCronSpec)

/-- ITS FALSE NEIGHBOUR: 'it returns false'. Refute it at one input. -/
def jobCronWrong : ChangeSpec := { name := "jobCron", fn := fun _ => fun
  | [d1, d2] => { results := [.lit (.bool false)], args := [d1, d2] }
  | _ => none }
def JobCronWrongFalsely : Prop := jobCronRow.holds Tryz.pinned (OpenSpec.ofChange jobCronWrong)

/-- 'curfewlaw11.TableDues': WHATEVER THE INPUT: true; the input reads as it did. -/
def tableDuesSpec : ChangeSpec := { name := "tableDues", fn := fun _ => fun
  | [d] => { results := [.lit (.bool true)], args := [d] }
  | _ => none }
def tableDuesRow : OpenClaim := { program := "ytjbpihalfaclkaagreatdoor", sum := "722675b17c57175f92c9c30a8b94d30b1d642f72d59f99274b6c04a5420220a5", func := "curfew/curfewlaw11.TableDues", spec := "tableDues", inPlace := ["slices.overlaps[curfew/api.Row]"], unfollowed := true, recurses := true, named := ["curfew/field.ends", "curfew/days.long", "math/bits.deBruijn64tab"], apart := false, laid := [("curfew/days.long", laid_curfew_days_long), ("math/bits.deBruijn64tab", laid_math_bits_deBruijn64tab), ("curfew/field.ends", laid_curfew_field_ends)] }
def TableDuesSaid : Prop := tableDuesRow.holds Tryz.pinned (OpenSpec.ofChange tableDuesSpec)

/-- ITS FALSE NEIGHBOUR: 'it returns false'. Refute it at one input. -/
def tableDuesWrong : ChangeSpec := { name := "tableDues", fn := fun _ => fun
  | [d] => { results := [.lit (.bool false)], args := [d] }
  | _ => none }
def TableDuesWrongFalsely : Prop := tableDuesRow.holds Tryz.pinned (OpenSpec.ofChange tableDuesWrong)

/-- 'curfewlaw11.TableBack': WHATEVER THE INPUT: true; the input reads as it did. -/
def tableBackSpec : ChangeSpec := { name := "tableBack", fn := fun _ => fun
  | [d1, d2, d3] => { results := [.lit (.bool true)], args := [d1, d2, d3] }
  | _ => none }
def tableBackRow : OpenClaim := { program := "ytjbpihalfaclkaagreatdoor", sum := "722675b17c57175f92c9c30a8b94d30b1d642f72d59f99274b6c04a5420220a5", func := "curfew/curfewlaw11.TableBack", spec := "tableBack", inPlace := ["slices.overlaps[curfew/api.Row]"], unfollowed := true, recurses := true, named := ["curfew/field.ends", "curfew/days.long", "math/bits.deBruijn64tab"], apart := false, laid := [("curfew/days.long", laid_curfew_days_long), ("math/bits.deBruijn64tab", laid_math_bits_deBruijn64tab), ("curfew/field.ends", laid_curfew_field_ends)] }
def TableBackSaid : Prop := tableBackRow.holds Tryz.pinned (OpenSpec.ofChange tableBackSpec)

/-- ITS FALSE NEIGHBOUR: 'it returns false'. Refute it at one input. -/
def tableBackWrong : ChangeSpec := { name := "tableBack", fn := fun _ => fun
  | [d1, d2, d3] => { results := [.lit (.bool false)], args := [d1, d2, d3] }
  | _ => none }
def TableBackWrongFalsely : Prop := tableBackRow.holds Tryz.pinned (OpenSpec.ofChange tableBackWrong)

/-- 'curfewlaw07.CronReads': WHATEVER THE INPUT: true; the input reads as it did. -/
def cronReadsSpec : ChangeSpec := { name := "cronReads", fn := fun _ => fun
  | [d] => { results := [.lit (.bool true)], args := [d] }
  | _ => none }
def cronReadsRow : OpenClaim := { program := "ytjbpihalfaclkaagreatdoor", sum := "722675b17c57175f92c9c30a8b94d30b1d642f72d59f99274b6c04a5420220a5", func := "curfew/curfewlaw07.CronReads", spec := "cronReads", inPlace := ["internal/bytealg.IndexByteString", "internal/bytealg.IndexString", "internal/bytealg.CountString", "internal/abi.NoEscape", "internal/bytealg.MakeNoZero"], unfollowed := true, recurses := true, named := ["unicode/utf8.first", "unicode/utf8.acceptRanges", "internal/bytealg.MaxLen", "curfew/cron.macros", "curfew/field.ends", "curfew/field.names", "internal/strconv.uint64pow10", "math/bits.deBruijn32tab", "math/bits.deBruijn64tab", "curfew/days.long"], apart := false, laid := [("curfew/days.long", laid_curfew_days_long), ("math/bits.deBruijn32tab", laid_math_bits_deBruijn32tab), ("math/bits.deBruijn64tab", laid_math_bits_deBruijn64tab), ("internal/strconv.uint64pow10", laid_internal_strconv_uint64pow10), ("unicode/utf8.acceptRanges", laid_unicode_utf8_acceptRanges), ("curfew/field.ends", laid_curfew_field_ends), ("curfew/field.names", laid_curfew_field_names), ("curfew/cron.macros", laid_curfew_cron_macros), ("unicode/utf8.first", laid_unicode_utf8_first)] }
def CronReadsSaid : Prop := cronReadsRow.holds Tryz.pinned (OpenSpec.ofChange cronReadsSpec)

/-- ITS FALSE NEIGHBOUR: 'it returns false'. Refute it at one input. -/
def cronReadsWrong : ChangeSpec := { name := "cronReads", fn := fun _ => fun
  | [d] => { results := [.lit (.bool false)], args := [d] }
  | _ => none }
def CronReadsWrongFalsely : Prop := cronReadsRow.holds Tryz.pinned (OpenSpec.ofChange cronReadsWrong)

/-- 'curfewlaw07.CronTells': WHATEVER THE INPUT: true; the input reads as it did. -/
def cronTellsSpec : ChangeSpec := { name := "cronTells", fn := fun _ => fun
  | [d] => { results := [.lit (.bool true)], args := [d] }
  | _ => none }
def cronTellsRow : OpenClaim := { program := "ytjbpihalfaclkaagreatdoor", sum := "722675b17c57175f92c9c30a8b94d30b1d642f72d59f99274b6c04a5420220a5", func := "curfew/curfewlaw07.CronTells", spec := "cronTells", inPlace := ["internal/bytealg.IndexByteString", "internal/bytealg.IndexString", "internal/bytealg.CountString", "internal/abi.NoEscape", "internal/bytealg.MakeNoZero"], unfollowed := true, recurses := true, named := ["unicode/utf8.first", "unicode/utf8.acceptRanges", "internal/bytealg.MaxLen", "curfew/cron.macros", "curfew/field.ends", "curfew/field.names", "internal/strconv.uint64pow10", "math/bits.deBruijn32tab", "math/bits.deBruijn64tab", "curfew/days.long"], apart := false, laid := [("curfew/days.long", laid_curfew_days_long), ("math/bits.deBruijn32tab", laid_math_bits_deBruijn32tab), ("math/bits.deBruijn64tab", laid_math_bits_deBruijn64tab), ("internal/strconv.uint64pow10", laid_internal_strconv_uint64pow10), ("unicode/utf8.acceptRanges", laid_unicode_utf8_acceptRanges), ("curfew/field.ends", laid_curfew_field_ends), ("curfew/field.names", laid_curfew_field_names), ("curfew/cron.macros", laid_curfew_cron_macros), ("unicode/utf8.first", laid_unicode_utf8_first)] }
def CronTellsSaid : Prop := cronTellsRow.holds Tryz.pinned (OpenSpec.ofChange cronTellsSpec)

/-- ITS FALSE NEIGHBOUR: 'it returns false'. Refute it at one input. -/
def cronTellsWrong : ChangeSpec := { name := "cronTells", fn := fun _ => fun
  | [d] => { results := [.lit (.bool false)], args := [d] }
  | _ => none }
def CronTellsWrongFalsely : Prop := cronTellsRow.holds Tryz.pinned (OpenSpec.ofChange cronTellsWrong)

/-- 'curfewlaw07.CronFits': WHATEVER THE INPUT: true; the input reads as it did. -/
def cronFitsSpec : ChangeSpec := { name := "cronFits", fn := fun _ => fun
  | [d1, d2, d3] => { results := [.lit (.bool true)], args := [d1, d2, d3] }
  | _ => none }
def cronFitsRow : OpenClaim := { program := "ytjbpihalfaclkaagreatdoor", sum := "722675b17c57175f92c9c30a8b94d30b1d642f72d59f99274b6c04a5420220a5", func := "curfew/curfewlaw07.CronFits", spec := "cronFits", inPlace := ["internal/bytealg.IndexByteString", "internal/bytealg.IndexString", "internal/bytealg.CountString", "internal/abi.NoEscape", "internal/bytealg.MakeNoZero"], unfollowed := true, recurses := true, named := ["unicode/utf8.first", "unicode/utf8.acceptRanges", "internal/bytealg.MaxLen", "curfew/cron.macros", "curfew/field.ends", "curfew/field.names", "internal/strconv.uint64pow10", "math/bits.deBruijn32tab", "math/bits.deBruijn64tab", "curfew/days.long"], apart := false, laid := [("curfew/days.long", laid_curfew_days_long), ("math/bits.deBruijn32tab", laid_math_bits_deBruijn32tab), ("math/bits.deBruijn64tab", laid_math_bits_deBruijn64tab), ("internal/strconv.uint64pow10", laid_internal_strconv_uint64pow10), ("unicode/utf8.acceptRanges", laid_unicode_utf8_acceptRanges), ("curfew/field.ends", laid_curfew_field_ends), ("curfew/field.names", laid_curfew_field_names), ("curfew/cron.macros", laid_curfew_cron_macros), ("unicode/utf8.first", laid_unicode_utf8_first)] }
def CronFitsSaid : Prop := cronFitsRow.holds Tryz.pinned (OpenSpec.ofChange cronFitsSpec)

/-- ITS FALSE NEIGHBOUR: 'it returns false'. Refute it at one input. -/
def cronFitsWrong : ChangeSpec := { name := "cronFits", fn := fun _ => fun
  | [d1, d2, d3] => { results := [.lit (.bool false)], args := [d1, d2, d3] }
  | _ => none }
def CronFitsWrongFalsely : Prop := cronFitsRow.holds Tryz.pinned (OpenSpec.ofChange cronFitsWrong)

/-- 'curfewlaw07.CronMore': WHATEVER THE INPUT: true; the input reads as it did. -/
def cronMoreSpec : ChangeSpec := { name := "cronMore", fn := fun _ => fun
  | [d1, d2, d3] => { results := [.lit (.bool true)], args := [d1, d2, d3] }
  | _ => none }
def cronMoreRow : OpenClaim := { program := "ytjbpihalfaclkaagreatdoor", sum := "722675b17c57175f92c9c30a8b94d30b1d642f72d59f99274b6c04a5420220a5", func := "curfew/curfewlaw07.CronMore", spec := "cronMore", inPlace := ["internal/bytealg.IndexByteString", "internal/bytealg.IndexString", "internal/bytealg.CountString", "internal/abi.NoEscape", "internal/bytealg.MakeNoZero"], unfollowed := true, recurses := true, named := ["unicode/utf8.first", "unicode/utf8.acceptRanges", "internal/bytealg.MaxLen", "curfew/cron.macros", "curfew/field.ends", "curfew/field.names", "internal/strconv.uint64pow10", "math/bits.deBruijn32tab", "math/bits.deBruijn64tab", "curfew/days.long"], apart := false, laid := [("curfew/days.long", laid_curfew_days_long), ("math/bits.deBruijn32tab", laid_math_bits_deBruijn32tab), ("math/bits.deBruijn64tab", laid_math_bits_deBruijn64tab), ("internal/strconv.uint64pow10", laid_internal_strconv_uint64pow10), ("unicode/utf8.acceptRanges", laid_unicode_utf8_acceptRanges), ("curfew/field.ends", laid_curfew_field_ends), ("curfew/field.names", laid_curfew_field_names), ("curfew/cron.macros", laid_curfew_cron_macros), ("unicode/utf8.first", laid_unicode_utf8_first)] }
def CronMoreSaid : Prop := cronMoreRow.holds Tryz.pinned (OpenSpec.ofChange cronMoreSpec)

/-- ITS FALSE NEIGHBOUR: 'it returns false'. Refute it at one input. -/
def cronMoreWrong : ChangeSpec := { name := "cronMore", fn := fun _ => fun
  | [d1, d2, d3] => { results := [.lit (.bool false)], args := [d1, d2, d3] }
  | _ => none }
def CronMoreWrongFalsely : Prop := cronMoreRow.holds Tryz.pinned (OpenSpec.ofChange cronMoreWrong)

/-- 'curfewlaw07.CronDays': WHATEVER THE INPUT: true; the input reads as it did. -/
def cronDaysSpec : ChangeSpec := { name := "cronDays", fn := fun _ => fun
  | [d1, d2] => { results := [.lit (.bool true)], args := [d1, d2] }
  | _ => none }
def cronDaysRow : OpenClaim := { program := "ytjbpihalfaclkaagreatdoor", sum := "722675b17c57175f92c9c30a8b94d30b1d642f72d59f99274b6c04a5420220a5", func := "curfew/curfewlaw07.CronDays", spec := "cronDays", inPlace := ["internal/bytealg.IndexByteString", "internal/bytealg.IndexString", "internal/bytealg.CountString", "internal/abi.NoEscape", "internal/bytealg.MakeNoZero"], unfollowed := true, recurses := true, named := ["unicode/utf8.first", "unicode/utf8.acceptRanges", "internal/bytealg.MaxLen", "curfew/cron.macros", "curfew/field.ends", "curfew/field.names", "internal/strconv.uint64pow10", "math/bits.deBruijn32tab", "math/bits.deBruijn64tab", "curfew/days.long"], apart := false, laid := [("curfew/days.long", laid_curfew_days_long), ("math/bits.deBruijn32tab", laid_math_bits_deBruijn32tab), ("math/bits.deBruijn64tab", laid_math_bits_deBruijn64tab), ("internal/strconv.uint64pow10", laid_internal_strconv_uint64pow10), ("unicode/utf8.acceptRanges", laid_unicode_utf8_acceptRanges), ("curfew/field.ends", laid_curfew_field_ends), ("curfew/field.names", laid_curfew_field_names), ("curfew/cron.macros", laid_curfew_cron_macros), ("unicode/utf8.first", laid_unicode_utf8_first)] }
def CronDaysSaid : Prop := cronDaysRow.holds Tryz.pinned (OpenSpec.ofChange cronDaysSpec)

/-- ITS FALSE NEIGHBOUR: 'it returns false'. Refute it at one input. -/
def cronDaysWrong : ChangeSpec := { name := "cronDays", fn := fun _ => fun
  | [d1, d2] => { results := [.lit (.bool false)], args := [d1, d2] }
  | _ => none }
def CronDaysWrongFalsely : Prop := cronDaysRow.holds Tryz.pinned (OpenSpec.ofChange cronDaysWrong)

/-- 'curfewlaw07.CronBack': WHATEVER THE INPUT: true; the input reads as it did. -/
def cronBackSpec : ChangeSpec := { name := "cronBack", fn := fun _ => fun
  | [d1, d2] => { results := [.lit (.bool true)], args := [d1, d2] }
  | _ => none }
def cronBackRow : OpenClaim := { program := "ytjbpihalfaclkaagreatdoor", sum := "722675b17c57175f92c9c30a8b94d30b1d642f72d59f99274b6c04a5420220a5", func := "curfew/curfewlaw07.CronBack", spec := "cronBack", inPlace := ["internal/bytealg.IndexByteString", "internal/bytealg.IndexString", "internal/bytealg.CountString", "internal/abi.NoEscape", "internal/bytealg.MakeNoZero"], unfollowed := true, recurses := true, named := ["unicode/utf8.first", "unicode/utf8.acceptRanges", "internal/bytealg.MaxLen", "curfew/cron.macros", "curfew/field.ends", "curfew/field.names", "internal/strconv.uint64pow10", "math/bits.deBruijn32tab", "math/bits.deBruijn64tab", "curfew/days.long"], apart := false, laid := [("curfew/days.long", laid_curfew_days_long), ("math/bits.deBruijn32tab", laid_math_bits_deBruijn32tab), ("math/bits.deBruijn64tab", laid_math_bits_deBruijn64tab), ("internal/strconv.uint64pow10", laid_internal_strconv_uint64pow10), ("unicode/utf8.acceptRanges", laid_unicode_utf8_acceptRanges), ("curfew/field.ends", laid_curfew_field_ends), ("curfew/field.names", laid_curfew_field_names), ("curfew/cron.macros", laid_curfew_cron_macros), ("unicode/utf8.first", laid_unicode_utf8_first)] }
def CronBackSaid : Prop := cronBackRow.holds Tryz.pinned (OpenSpec.ofChange cronBackSpec)

/-- ITS FALSE NEIGHBOUR: 'it returns false'. Refute it at one input. -/
def cronBackWrong : ChangeSpec := { name := "cronBack", fn := fun _ => fun
  | [d1, d2] => { results := [.lit (.bool false)], args := [d1, d2] }
  | _ => none }
def CronBackWrongFalsely : Prop := cronBackRow.holds Tryz.pinned (OpenSpec.ofChange cronBackWrong)

/- THE SECOND FORM. 'bulk': how many values and letters a reading holds, each counted each time it is reached (what is shared counts as often as it is met; a slice's spare places count too). A statement '..UptoSaid' is the law's where the arguments, and the package variables that the reading takes, are together of bulk at most 1048576: NARROWER than '..Said'. Prove '..Said' where nothing that the law and all that it calls make is longer than what came in: it says more and counts as full. Else prove '..UptoSaid'. A law counts once. -/
mutual
def uptoBulk {H : Type} : DataW H → Nat
  | .lit (.string bytes) => bytes.length + 1
  | .lit _ => 1
  | .nil => 1
  | .ptr d => uptoBulk d + 1
  | .slice elems spare => uptoBulkAll elems + uptoBulkAll spare + 1
  | .agg parts => uptoBulkAll parts + 1
  | .iface _ d => uptoBulk d + 1
  | .map entries => uptoBulkEntries entries + 1
  | .held _ => 1
def uptoBulkAll {H : Type} : List (DataW H) → Nat
  | [] => 0
  | d :: r => uptoBulk d + uptoBulkAll r
def uptoBulkEntries {H : Type} : List (Lit × DataW H) → Nat
  | [] => 0
  | x :: r => uptoBulkEntry x + uptoBulkEntries r
def uptoBulkEntry {H : Type} : Lit × DataW H → Nat
  | (.string bytes, d) => bytes.length + uptoBulk d + 1
  | (_, d) => uptoBulk d + 1
 end
def uptoSmall : (H : Type) → List (DataW H) → Bool := fun _ ds => decide (uptoBulkAll ds ≤ 1048576)
def OpenSpec.upto (s : _root_.Go.ChangeSpec) : _root_.Go.OpenSpec := { _root_.Go.OpenSpec.ofChange s with cond := some uptoSmall }

/-- 'curfewlaw10.JobSays', WHERE WHAT IT READS IS OF BULK AT MOST 1048576: true; the input reads as it did. -/
def jobSaysUptoRow : OpenClaim := { program := "ytjbpihalfaclkaagreatdoor", sum := "722675b17c57175f92c9c30a8b94d30b1d642f72d59f99274b6c04a5420220a5", func := "curfew/curfewlaw10.JobSays", spec := "jobSays", inPlace := ["internal/bytealg.IndexByteString", "internal/bytealg.IndexString", "internal/bytealg.CountString", "internal/abi.NoEscape"], unfollowed := true, recurses := true, named := ["curfew/field.ends", "curfew/days.long", "math/bits.deBruijn64tab", "unicode/utf8.first", "unicode/utf8.acceptRanges", "internal/bytealg.MaxLen", "curfew/cron.macros", "curfew/field.names"], apart := false, laid := [("curfew/days.long", laid_curfew_days_long), ("math/bits.deBruijn64tab", laid_math_bits_deBruijn64tab), ("unicode/utf8.acceptRanges", laid_unicode_utf8_acceptRanges), ("curfew/field.ends", laid_curfew_field_ends), ("curfew/field.names", laid_curfew_field_names), ("curfew/cron.macros", laid_curfew_cron_macros), ("unicode/utf8.first", laid_unicode_utf8_first)], narrowed := true }
def JobSaysUptoSaid : Prop := jobSaysUptoRow.holds Tryz.pinned (OpenSpec.upto jobSaysSpec)

/-- 'curfewlaw10.JobTimes', WHERE WHAT IT READS IS OF BULK AT MOST 1048576: true; the input reads as it did. -/
def jobTimesUptoRow : OpenClaim := { program := "ytjbpihalfaclkaagreatdoor", sum := "722675b17c57175f92c9c30a8b94d30b1d642f72d59f99274b6c04a5420220a5", func := "curfew/curfewlaw10.JobTimes", spec := "jobTimes", inPlace := ["internal/bytealg.IndexByteString", "internal/bytealg.IndexString", "internal/bytealg.CountString", "internal/abi.NoEscape"], unfollowed := true, recurses := true, named := ["curfew/field.ends", "curfew/days.long", "math/bits.deBruijn64tab", "unicode/utf8.first", "unicode/utf8.acceptRanges", "internal/bytealg.MaxLen", "curfew/cron.macros", "curfew/field.names"], apart := false, laid := [("curfew/days.long", laid_curfew_days_long), ("math/bits.deBruijn64tab", laid_math_bits_deBruijn64tab), ("unicode/utf8.acceptRanges", laid_unicode_utf8_acceptRanges), ("curfew/field.ends", laid_curfew_field_ends), ("curfew/field.names", laid_curfew_field_names), ("curfew/cron.macros", laid_curfew_cron_macros), ("unicode/utf8.first", laid_unicode_utf8_first)], narrowed := true }
def JobTimesUptoSaid : Prop := jobTimesUptoRow.holds Tryz.pinned (OpenSpec.upto jobTimesSpec)

/-- 'curfewlaw10.JobEnds', WHERE WHAT IT READS IS OF BULK AT MOST 1048576: true; the input reads as it did. -/
def jobEndsUptoRow : OpenClaim := { program := "ytjbpihalfaclkaagreatdoor", sum := "722675b17c57175f92c9c30a8b94d30b1d642f72d59f99274b6c04a5420220a5", func := "curfew/curfewlaw10.JobEnds", spec := "jobEnds", inPlace := ["internal/bytealg.IndexByteString", "internal/bytealg.IndexString", "internal/bytealg.CountString", "internal/abi.NoEscape"], unfollowed := true, recurses := true, named := ["curfew/field.ends", "curfew/days.long", "math/bits.deBruijn64tab", "unicode/utf8.first", "unicode/utf8.acceptRanges", "internal/bytealg.MaxLen", "curfew/cron.macros", "curfew/field.names"], apart := false, laid := [("curfew/days.long", laid_curfew_days_long), ("math/bits.deBruijn64tab", laid_math_bits_deBruijn64tab), ("unicode/utf8.acceptRanges", laid_unicode_utf8_acceptRanges), ("curfew/field.ends", laid_curfew_field_ends), ("curfew/field.names", laid_curfew_field_names), ("curfew/cron.macros", laid_curfew_cron_macros), ("unicode/utf8.first", laid_unicode_utf8_first)], narrowed := true }
def JobEndsUptoSaid : Prop := jobEndsUptoRow.holds Tryz.pinned (OpenSpec.upto jobEndsSpec)

/-- 'curfewlaw10.JobCron', WHERE WHAT IT READS IS OF BULK AT MOST 1048576: true; the input reads as it did. -/
def jobCronUptoRow : OpenClaim := { program := "ytjbpihalfaclkaagreatdoor", sum := "722675b17c57175f92c9c30a8b94d30b1d642f72d59f99274b6c04a5420220a5", func := "curfew/curfewlaw10.JobCron", spec := "jobCron", inPlace := ["internal/bytealg.IndexByteString", "internal/bytealg.IndexString", "internal/bytealg.CountString", "internal/abi.NoEscape"], unfollowed := true, recurses := true, named := ["curfew/field.ends", "curfew/days.long", "math/bits.deBruijn64tab", "unicode/utf8.first", "unicode/utf8.acceptRanges", "internal/bytealg.MaxLen", "curfew/cron.macros", "curfew/field.names"], apart := false, laid := [("curfew/days.long", laid_curfew_days_long), ("math/bits.deBruijn64tab", laid_math_bits_deBruijn64tab), ("unicode/utf8.acceptRanges", laid_unicode_utf8_acceptRanges), ("curfew/field.ends", laid_curfew_field_ends), ("curfew/field.names", laid_curfew_field_names), ("curfew/cron.macros", laid_curfew_cron_macros), ("unicode/utf8.first", laid_unicode_utf8_first)], narrowed := true }
def JobCronUptoSaid : Prop := jobCronUptoRow.holds Tryz.pinned (OpenSpec.upto jobCronSpec)

/-- 'curfewlaw11.TableDues', WHERE WHAT IT READS IS OF BULK AT MOST 1048576: true; the input reads as it did. -/
def tableDuesUptoRow : OpenClaim := { program := "ytjbpihalfaclkaagreatdoor", sum := "722675b17c57175f92c9c30a8b94d30b1d642f72d59f99274b6c04a5420220a5", func := "curfew/curfewlaw11.TableDues", spec := "tableDues", inPlace := ["slices.overlaps[curfew/api.Row]"], unfollowed := true, recurses := true, named := ["curfew/field.ends", "curfew/days.long", "math/bits.deBruijn64tab"], apart := false, laid := [("curfew/days.long", laid_curfew_days_long), ("math/bits.deBruijn64tab", laid_math_bits_deBruijn64tab), ("curfew/field.ends", laid_curfew_field_ends)], narrowed := true }
def TableDuesUptoSaid : Prop := tableDuesUptoRow.holds Tryz.pinned (OpenSpec.upto tableDuesSpec)

/-- 'curfewlaw11.TableBack', WHERE WHAT IT READS IS OF BULK AT MOST 1048576: true; the input reads as it did. -/
def tableBackUptoRow : OpenClaim := { program := "ytjbpihalfaclkaagreatdoor", sum := "722675b17c57175f92c9c30a8b94d30b1d642f72d59f99274b6c04a5420220a5", func := "curfew/curfewlaw11.TableBack", spec := "tableBack", inPlace := ["slices.overlaps[curfew/api.Row]"], unfollowed := true, recurses := true, named := ["curfew/field.ends", "curfew/days.long", "math/bits.deBruijn64tab"], apart := false, laid := [("curfew/days.long", laid_curfew_days_long), ("math/bits.deBruijn64tab", laid_math_bits_deBruijn64tab), ("curfew/field.ends", laid_curfew_field_ends)], narrowed := true }
def TableBackUptoSaid : Prop := tableBackUptoRow.holds Tryz.pinned (OpenSpec.upto tableBackSpec)

/-- 'curfewlaw07.CronReads', WHERE WHAT IT READS IS OF BULK AT MOST 1048576: true; the input reads as it did. -/
def cronReadsUptoRow : OpenClaim := { program := "ytjbpihalfaclkaagreatdoor", sum := "722675b17c57175f92c9c30a8b94d30b1d642f72d59f99274b6c04a5420220a5", func := "curfew/curfewlaw07.CronReads", spec := "cronReads", inPlace := ["internal/bytealg.IndexByteString", "internal/bytealg.IndexString", "internal/bytealg.CountString", "internal/abi.NoEscape", "internal/bytealg.MakeNoZero"], unfollowed := true, recurses := true, named := ["unicode/utf8.first", "unicode/utf8.acceptRanges", "internal/bytealg.MaxLen", "curfew/cron.macros", "curfew/field.ends", "curfew/field.names", "internal/strconv.uint64pow10", "math/bits.deBruijn32tab", "math/bits.deBruijn64tab", "curfew/days.long"], apart := false, laid := [("curfew/days.long", laid_curfew_days_long), ("math/bits.deBruijn32tab", laid_math_bits_deBruijn32tab), ("math/bits.deBruijn64tab", laid_math_bits_deBruijn64tab), ("internal/strconv.uint64pow10", laid_internal_strconv_uint64pow10), ("unicode/utf8.acceptRanges", laid_unicode_utf8_acceptRanges), ("curfew/field.ends", laid_curfew_field_ends), ("curfew/field.names", laid_curfew_field_names), ("curfew/cron.macros", laid_curfew_cron_macros), ("unicode/utf8.first", laid_unicode_utf8_first)], narrowed := true }
def CronReadsUptoSaid : Prop := cronReadsUptoRow.holds Tryz.pinned (OpenSpec.upto cronReadsSpec)

/-- 'curfewlaw07.CronTells', WHERE WHAT IT READS IS OF BULK AT MOST 1048576: true; the input reads as it did. -/
def cronTellsUptoRow : OpenClaim := { program := "ytjbpihalfaclkaagreatdoor", sum := "722675b17c57175f92c9c30a8b94d30b1d642f72d59f99274b6c04a5420220a5", func := "curfew/curfewlaw07.CronTells", spec := "cronTells", inPlace := ["internal/bytealg.IndexByteString", "internal/bytealg.IndexString", "internal/bytealg.CountString", "internal/abi.NoEscape", "internal/bytealg.MakeNoZero"], unfollowed := true, recurses := true, named := ["unicode/utf8.first", "unicode/utf8.acceptRanges", "internal/bytealg.MaxLen", "curfew/cron.macros", "curfew/field.ends", "curfew/field.names", "internal/strconv.uint64pow10", "math/bits.deBruijn32tab", "math/bits.deBruijn64tab", "curfew/days.long"], apart := false, laid := [("curfew/days.long", laid_curfew_days_long), ("math/bits.deBruijn32tab", laid_math_bits_deBruijn32tab), ("math/bits.deBruijn64tab", laid_math_bits_deBruijn64tab), ("internal/strconv.uint64pow10", laid_internal_strconv_uint64pow10), ("unicode/utf8.acceptRanges", laid_unicode_utf8_acceptRanges), ("curfew/field.ends", laid_curfew_field_ends), ("curfew/field.names", laid_curfew_field_names), ("curfew/cron.macros", laid_curfew_cron_macros), ("unicode/utf8.first", laid_unicode_utf8_first)], narrowed := true }
def CronTellsUptoSaid : Prop := cronTellsUptoRow.holds Tryz.pinned (OpenSpec.upto cronTellsSpec)

/-- 'curfewlaw07.CronFits', WHERE WHAT IT READS IS OF BULK AT MOST 1048576: true; the input reads as it did. -/
def cronFitsUptoRow : OpenClaim := { program := "ytjbpihalfaclkaagreatdoor", sum := "722675b17c57175f92c9c30a8b94d30b1d642f72d59f99274b6c04a5420220a5", func := "curfew/curfewlaw07.CronFits", spec := "cronFits", inPlace := ["internal/bytealg.IndexByteString", "internal/bytealg.IndexString", "internal/bytealg.CountString", "internal/abi.NoEscape", "internal/bytealg.MakeNoZero"], unfollowed := true, recurses := true, named := ["unicode/utf8.first", "unicode/utf8.acceptRanges", "internal/bytealg.MaxLen", "curfew/cron.macros", "curfew/field.ends", "curfew/field.names", "internal/strconv.uint64pow10", "math/bits.deBruijn32tab", "math/bits.deBruijn64tab", "curfew/days.long"], apart := false, laid := [("curfew/days.long", laid_curfew_days_long), ("math/bits.deBruijn32tab", laid_math_bits_deBruijn32tab), ("math/bits.deBruijn64tab", laid_math_bits_deBruijn64tab), ("internal/strconv.uint64pow10", laid_internal_strconv_uint64pow10), ("unicode/utf8.acceptRanges", laid_unicode_utf8_acceptRanges), ("curfew/field.ends", laid_curfew_field_ends), ("curfew/field.names", laid_curfew_field_names), ("curfew/cron.macros", laid_curfew_cron_macros), ("unicode/utf8.first", laid_unicode_utf8_first)], narrowed := true }
def CronFitsUptoSaid : Prop := cronFitsUptoRow.holds Tryz.pinned (OpenSpec.upto cronFitsSpec)

/-- 'curfewlaw07.CronMore', WHERE WHAT IT READS IS OF BULK AT MOST 1048576: true; the input reads as it did. -/
def cronMoreUptoRow : OpenClaim := { program := "ytjbpihalfaclkaagreatdoor", sum := "722675b17c57175f92c9c30a8b94d30b1d642f72d59f99274b6c04a5420220a5", func := "curfew/curfewlaw07.CronMore", spec := "cronMore", inPlace := ["internal/bytealg.IndexByteString", "internal/bytealg.IndexString", "internal/bytealg.CountString", "internal/abi.NoEscape", "internal/bytealg.MakeNoZero"], unfollowed := true, recurses := true, named := ["unicode/utf8.first", "unicode/utf8.acceptRanges", "internal/bytealg.MaxLen", "curfew/cron.macros", "curfew/field.ends", "curfew/field.names", "internal/strconv.uint64pow10", "math/bits.deBruijn32tab", "math/bits.deBruijn64tab", "curfew/days.long"], apart := false, laid := [("curfew/days.long", laid_curfew_days_long), ("math/bits.deBruijn32tab", laid_math_bits_deBruijn32tab), ("math/bits.deBruijn64tab", laid_math_bits_deBruijn64tab), ("internal/strconv.uint64pow10", laid_internal_strconv_uint64pow10), ("unicode/utf8.acceptRanges", laid_unicode_utf8_acceptRanges), ("curfew/field.ends", laid_curfew_field_ends), ("curfew/field.names", laid_curfew_field_names), ("curfew/cron.macros", laid_curfew_cron_macros), ("unicode/utf8.first", laid_unicode_utf8_first)], narrowed := true }
def CronMoreUptoSaid : Prop := cronMoreUptoRow.holds Tryz.pinned (OpenSpec.upto cronMoreSpec)

/-- 'curfewlaw07.CronDays', WHERE WHAT IT READS IS OF BULK AT MOST 1048576: true; the input reads as it did. -/
def cronDaysUptoRow : OpenClaim := { program := "ytjbpihalfaclkaagreatdoor", sum := "722675b17c57175f92c9c30a8b94d30b1d642f72d59f99274b6c04a5420220a5", func := "curfew/curfewlaw07.CronDays", spec := "cronDays", inPlace := ["internal/bytealg.IndexByteString", "internal/bytealg.IndexString", "internal/bytealg.CountString", "internal/abi.NoEscape", "internal/bytealg.MakeNoZero"], unfollowed := true, recurses := true, named := ["unicode/utf8.first", "unicode/utf8.acceptRanges", "internal/bytealg.MaxLen", "curfew/cron.macros", "curfew/field.ends", "curfew/field.names", "internal/strconv.uint64pow10", "math/bits.deBruijn32tab", "math/bits.deBruijn64tab", "curfew/days.long"], apart := false, laid := [("curfew/days.long", laid_curfew_days_long), ("math/bits.deBruijn32tab", laid_math_bits_deBruijn32tab), ("math/bits.deBruijn64tab", laid_math_bits_deBruijn64tab), ("internal/strconv.uint64pow10", laid_internal_strconv_uint64pow10), ("unicode/utf8.acceptRanges", laid_unicode_utf8_acceptRanges), ("curfew/field.ends", laid_curfew_field_ends), ("curfew/field.names", laid_curfew_field_names), ("curfew/cron.macros", laid_curfew_cron_macros), ("unicode/utf8.first", laid_unicode_utf8_first)], narrowed := true }
def CronDaysUptoSaid : Prop := cronDaysUptoRow.holds Tryz.pinned (OpenSpec.upto cronDaysSpec)

/-- 'curfewlaw07.CronBack', WHERE WHAT IT READS IS OF BULK AT MOST 1048576: true; the input reads as it did. -/
def cronBackUptoRow : OpenClaim := { program := "ytjbpihalfaclkaagreatdoor", sum := "722675b17c57175f92c9c30a8b94d30b1d642f72d59f99274b6c04a5420220a5", func := "curfew/curfewlaw07.CronBack", spec := "cronBack", inPlace := ["internal/bytealg.IndexByteString", "internal/bytealg.IndexString", "internal/bytealg.CountString", "internal/abi.NoEscape", "internal/bytealg.MakeNoZero"], unfollowed := true, recurses := true, named := ["unicode/utf8.first", "unicode/utf8.acceptRanges", "internal/bytealg.MaxLen", "curfew/cron.macros", "curfew/field.ends", "curfew/field.names", "internal/strconv.uint64pow10", "math/bits.deBruijn32tab", "math/bits.deBruijn64tab", "curfew/days.long"], apart := false, laid := [("curfew/days.long", laid_curfew_days_long), ("math/bits.deBruijn32tab", laid_math_bits_deBruijn32tab), ("math/bits.deBruijn64tab", laid_math_bits_deBruijn64tab), ("internal/strconv.uint64pow10", laid_internal_strconv_uint64pow10), ("unicode/utf8.acceptRanges", laid_unicode_utf8_acceptRanges), ("curfew/field.ends", laid_curfew_field_ends), ("curfew/field.names", laid_curfew_field_names), ("curfew/cron.macros", laid_curfew_cron_macros), ("unicode/utf8.first", laid_unicode_utf8_first)], narrowed := true }
def CronBackUptoSaid : Prop := cronBackUptoRow.holds Tryz.pinned (OpenSpec.upto cronBackSpec)

end Rows
end Go.Proofs.YtjbpihalfaclkaaGreatDoor
