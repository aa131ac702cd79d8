/-
  NARROWER THAN 'FOR EVERY INPUT', by the rows' own cells (each row's printed sentence says how): NextSome: laid · NextTurns: laid · NextTells: laid · NextEver: laid · NextTight: laid · DueRises: laid · DueCatch: laid · DueAll: laid · NextParts: laid.
  DERIVED. THE GIVEN ROWS OF THIS SEAT. 9 by the template 'for every input the law returns true; each argument reads behind the call as it read before'; 0 by the template 'total and deterministic' (their statements: YtiffoefhadgdnaaDoorTotals.lean).
  GIVEN WITH THE SEED: the statements are not yours to turn. If you find one false, say at which input.
  Laid BY PROGRAM, IN A SANDBOX (cutbox-rows.mjs): the forced cells as the released guide's own fill.sh prints them over the translation c655ce9721af2405… (all of the seat's roots in one cut). By AI agents, Wed Nov 11 2026. No macro, syntax, notation, axiom, sorry.
-/
import Derived.Test.YtiffoefhadgdnaaDoorChecked
import GoSem.Claim
import GoSem.ClaimJoined
import GoSem.ClaimMapViews
import Derived.JoinedTies
import Derived.KernelRfl
namespace Go.Proofs.YtiffoefhadgdnaaDoor
/- THE CELL 'sum', in the pinned program and in every row, IS THE sha256 OF THE DUMP (.gsa) THAT YtiffoefhadgdnaaDoorProg.lean LOADS. Nothing in Lean hashes anything: it is a label: what it is worth is what the hold of that sum in a sandbox is worth. -/
noncomputable def Tryd.pinned : Pinned := { name := "ytiffoefhadgdnaadoor", sum := "c655ce9721af2405d1c7b639625322f83f8cc68f49145c9035f00ee0e2c3276e", checked := Tryd.checked }
namespace Rows
def none {H : Type} : Left H := { results := [], args := [] }

/- WHAT THE LISTED PACKAGE-LEVEL VARIABLES READ AS WHEN THE CALL BEGINS. Each datum BY PROGRAM (the guide's laid-datum.mjs) off the statement by which the dump's own 'gosem.cut.vars' lays the variable. In a bare row this is a premise. The card (YtiffoefhadgdnaaDoorCards.lean) ties it to the program's text. -/
def laid_curfew_days_long {H : Type} : DataW H := .agg [.lit (.int .i64 0), .lit (.int .i64 31), .lit (.int .i64 28), .lit (.int .i64 31), .lit (.int .i64 30), .lit (.int .i64 31), .lit (.int .i64 30), .lit (.int .i64 31), .lit (.int .i64 31), .lit (.int .i64 30), .lit (.int .i64 31), .lit (.int .i64 30), .lit (.int .i64 31)]
def laid_math_bits_deBruijn64tab {H : Type} : DataW H := .agg [.lit (.int .u8 0), .lit (.int .u8 1), .lit (.int .u8 56), .lit (.int .u8 2), .lit (.int .u8 57), .lit (.int .u8 49), .lit (.int .u8 28), .lit (.int .u8 3), .lit (.int .u8 61), .lit (.int .u8 58), .lit (.int .u8 42), .lit (.int .u8 50), .lit (.int .u8 38), .lit (.int .u8 29), .lit (.int .u8 17), .lit (.int .u8 4), .lit (.int .u8 62), .lit (.int .u8 47), .lit (.int .u8 59), .lit (.int .u8 36), .lit (.int .u8 45), .lit (.int .u8 43), .lit (.int .u8 51), .lit (.int .u8 22), .lit (.int .u8 53), .lit (.int .u8 39), .lit (.int .u8 33), .lit (.int .u8 30), .lit (.int .u8 24), .lit (.int .u8 18), .lit (.int .u8 12), .lit (.int .u8 5), .lit (.int .u8 63), .lit (.int .u8 55), .lit (.int .u8 48), .lit (.int .u8 27), .lit (.int .u8 60), .lit (.int .u8 41), .lit (.int .u8 37), .lit (.int .u8 16), .lit (.int .u8 46), .lit (.int .u8 35), .lit (.int .u8 44), .lit (.int .u8 21), .lit (.int .u8 52), .lit (.int .u8 32), .lit (.int .u8 23), .lit (.int .u8 11), .lit (.int .u8 54), .lit (.int .u8 26), .lit (.int .u8 40), .lit (.int .u8 15), .lit (.int .u8 34), .lit (.int .u8 20), .lit (.int .u8 31), .lit (.int .u8 10), .lit (.int .u8 25), .lit (.int .u8 14), .lit (.int .u8 19), .lit (.int .u8 9), .lit (.int .u8 13), .lit (.int .u8 8), .lit (.int .u8 7), .lit (.int .u8 6)]
def laid_curfew_field_ends {H : Type} : DataW H := .agg [.agg [.lit (.int .i64 0), .lit (.int .i64 59)], .agg [.lit (.int .i64 0), .lit (.int .i64 23)], .agg [.lit (.int .i64 1), .lit (.int .i64 31)], .agg [.lit (.int .i64 1), .lit (.int .i64 12)], .agg [.lit (.int .i64 0), .lit (.int .i64 6)]]

/-- 'curfewlaw08.NextSome': WHATEVER THE INPUT: true; the input reads as it did. -/
def nextSomeSpec : ChangeSpec := { name := "nextSome", fn := fun _ => fun
  | [d1, d2, d3] => { results := [.lit (.bool true)], args := [d1, d2, d3] }
  | _ => none }
def nextSomeRow : OpenClaim := { program := "ytiffoefhadgdnaadoor", sum := "c655ce9721af2405d1c7b639625322f83f8cc68f49145c9035f00ee0e2c3276e", func := "curfew/curfewlaw08.NextSome", spec := "nextSome", unfollowed := true, recurses := true, named := ["curfew/field.ends", "curfew/days.long", "math/bits.deBruijn64tab"], apart := false, laid := [("curfew/days.long", laid_curfew_days_long), ("math/bits.deBruijn64tab", laid_math_bits_deBruijn64tab), ("curfew/field.ends", laid_curfew_field_ends)] }
def NextSomeSaid : Prop := nextSomeRow.holds Tryd.pinned (OpenSpec.ofChange nextSomeSpec)

/-- ITS FALSE NEIGHBOUR: 'it returns false'. Refute it at one input. -/
def nextSomeWrong : ChangeSpec := { name := "nextSome", fn := fun _ => fun
  | [d1, d2, d3] => { results := [.lit (.bool false)], args := [d1, d2, d3] }
  | _ => none }
def NextSomeWrongFalsely : Prop := nextSomeRow.holds Tryd.pinned (OpenSpec.ofChange nextSomeWrong)

/-- 'curfewlaw08.NextTurns': WHATEVER THE INPUT: true; the input reads as it did. -/
def nextTurnsSpec : ChangeSpec := { name := "nextTurns", fn := fun _ => fun
  | [d1, d2] => { results := [.lit (.bool true)], args := [d1, d2] }
  | _ => none }
def nextTurnsRow : OpenClaim := { program := "ytiffoefhadgdnaadoor", sum := "c655ce9721af2405d1c7b639625322f83f8cc68f49145c9035f00ee0e2c3276e", func := "curfew/curfewlaw08.NextTurns", spec := "nextTurns", unfollowed := true, recurses := true, named := ["curfew/field.ends", "curfew/days.long", "math/bits.deBruijn64tab"], apart := false, laid := [("curfew/days.long", laid_curfew_days_long), ("math/bits.deBruijn64tab", laid_math_bits_deBruijn64tab), ("curfew/field.ends", laid_curfew_field_ends)] }
def NextTurnsSaid : Prop := nextTurnsRow.holds Tryd.pinned (OpenSpec.ofChange nextTurnsSpec)

/-- ITS FALSE NEIGHBOUR: 'it returns false'. Refute it at one input. -/
def nextTurnsWrong : ChangeSpec := { name := "nextTurns", fn := fun _ => fun
  | [d1, d2] => { results := [.lit (.bool false)], args := [d1, d2] }
  | _ => none }
def NextTurnsWrongFalsely : Prop := nextTurnsRow.holds Tryd.pinned (OpenSpec.ofChange nextTurnsWrong)

/-- 'curfewlaw08.NextTells': WHATEVER THE INPUT: true; the input reads as it did. -/
def nextTellsSpec : ChangeSpec := { name := "nextTells", fn := fun _ => fun
  | [d1, d2] => { results := [.lit (.bool true)], args := [d1, d2] }
  | _ => none }
def nextTellsRow : OpenClaim := { program := "ytiffoefhadgdnaadoor", sum := "c655ce9721af2405d1c7b639625322f83f8cc68f49145c9035f00ee0e2c3276e", func := "curfew/curfewlaw08.NextTells", spec := "nextTells", unfollowed := true, recurses := true, named := ["curfew/field.ends", "curfew/days.long", "math/bits.deBruijn64tab"], apart := false, laid := [("curfew/days.long", laid_curfew_days_long), ("math/bits.deBruijn64tab", laid_math_bits_deBruijn64tab), ("curfew/field.ends", laid_curfew_field_ends)] }
def NextTellsSaid : Prop := nextTellsRow.holds Tryd.pinned (OpenSpec.ofChange nextTellsSpec)

/-- ITS FALSE NEIGHBOUR: 'it returns false'. Refute it at one input. -/
def nextTellsWrong : ChangeSpec := { name := "nextTells", fn := fun _ => fun
  | [d1, d2] => { results := [.lit (.bool false)], args := [d1, d2] }
  | _ => none }
def NextTellsWrongFalsely : Prop := nextTellsRow.holds Tryd.pinned (OpenSpec.ofChange nextTellsWrong)

/-- 'curfewlaw08.NextEver': WHATEVER THE INPUT: true; the input reads as it did. -/
def nextEverSpec : ChangeSpec := { name := "nextEver", fn := fun _ => fun
  | [d1, d2] => { results := [.lit (.bool true)], args := [d1, d2] }
  | _ => none }
def nextEverRow : OpenClaim := { program := "ytiffoefhadgdnaadoor", sum := "c655ce9721af2405d1c7b639625322f83f8cc68f49145c9035f00ee0e2c3276e", func := "curfew/curfewlaw08.NextEver", spec := "nextEver", unfollowed := true, recurses := true, named := ["curfew/field.ends", "curfew/days.long", "math/bits.deBruijn64tab"], apart := false, laid := [("curfew/days.long", laid_curfew_days_long), ("math/bits.deBruijn64tab", laid_math_bits_deBruijn64tab), ("curfew/field.ends", laid_curfew_field_ends)] }
def NextEverSaid : Prop := nextEverRow.holds Tryd.pinned (OpenSpec.ofChange nextEverSpec)

/-- ITS FALSE NEIGHBOUR: 'it returns false'. Refute it at one input. -/
def nextEverWrong : ChangeSpec := { name := "nextEver", fn := fun _ => fun
  | [d1, d2] => { results := [.lit (.bool false)], args := [d1, d2] }
  | _ => none }
def NextEverWrongFalsely : Prop := nextEverRow.holds Tryd.pinned (OpenSpec.ofChange nextEverWrong)

/-- 'curfewlaw08.NextTight': WHATEVER THE INPUT: true; the input reads as it did. -/
def nextTightSpec : ChangeSpec := { name := "nextTight", fn := fun _ => fun
  | [d1, d2, d3] => { results := [.lit (.bool true)], args := [d1, d2, d3] }
  | _ => none }
def nextTightRow : OpenClaim := { program := "ytiffoefhadgdnaadoor", sum := "c655ce9721af2405d1c7b639625322f83f8cc68f49145c9035f00ee0e2c3276e", func := "curfew/curfewlaw08.NextTight", spec := "nextTight", unfollowed := true, recurses := true, named := ["curfew/field.ends", "curfew/days.long", "math/bits.deBruijn64tab"], apart := false, laid := [("curfew/days.long", laid_curfew_days_long), ("math/bits.deBruijn64tab", laid_math_bits_deBruijn64tab), ("curfew/field.ends", laid_curfew_field_ends)] }
def NextTightSaid : Prop := nextTightRow.holds Tryd.pinned (OpenSpec.ofChange nextTightSpec)

/-- ITS FALSE NEIGHBOUR: 'it returns false'. Refute it at one input. -/
def nextTightWrong : ChangeSpec := { name := "nextTight", fn := fun _ => fun
  | [d1, d2, d3] => { results := [.lit (.bool false)], args := [d1, d2, d3] }
  | _ => none }
def NextTightWrongFalsely : Prop := nextTightRow.holds Tryd.pinned (OpenSpec.ofChange nextTightWrong)

/-- 'curfewlaw13.DueRises': WHATEVER THE INPUT: true; the input reads as it did. -/
def dueRisesSpec : ChangeSpec := { name := "dueRises", fn := fun _ => fun
  | [d1, d2] => { results := [.lit (.bool true)], args := [d1, d2] }
  | _ => none }
def dueRisesRow : OpenClaim := { program := "ytiffoefhadgdnaadoor", sum := "c655ce9721af2405d1c7b639625322f83f8cc68f49145c9035f00ee0e2c3276e", func := "curfew/curfewlaw13.DueRises", spec := "dueRises", unfollowed := true, recurses := true, named := ["curfew/field.ends", "curfew/days.long", "math/bits.deBruijn64tab"], apart := false, laid := [("curfew/days.long", laid_curfew_days_long), ("math/bits.deBruijn64tab", laid_math_bits_deBruijn64tab), ("curfew/field.ends", laid_curfew_field_ends)] }
def DueRisesSaid : Prop := dueRisesRow.holds Tryd.pinned (OpenSpec.ofChange dueRisesSpec)

/-- ITS FALSE NEIGHBOUR: 'it returns false'. Refute it at one input. -/
def dueRisesWrong : ChangeSpec := { name := "dueRises", fn := fun _ => fun
  | [d1, d2] => { results := [.lit (.bool false)], args := [d1, d2] }
  | _ => none }
def DueRisesWrongFalsely : Prop := dueRisesRow.holds Tryd.pinned (OpenSpec.ofChange dueRisesWrong)

/-- 'curfewlaw13.DueCatch': WHATEVER THE INPUT: true; the input reads as it did. -/
def dueCatchSpec : ChangeSpec := { name := "dueCatch", fn := fun _ => fun
  | [d1, d2] => { results := [.lit (.bool true)], args := [d1, d2] }
  | _ => none }
def dueCatchRow : OpenClaim := { program := "ytiffoefhadgdnaadoor", sum := "c655ce9721af2405d1c7b639625322f83f8cc68f49145c9035f00ee0e2c3276e", func := "curfew/curfewlaw13.DueCatch", spec := "dueCatch", unfollowed := true, recurses := true, named := ["curfew/field.ends", "curfew/days.long", "math/bits.deBruijn64tab"], apart := false, laid := [("curfew/days.long", laid_curfew_days_long), ("math/bits.deBruijn64tab", laid_math_bits_deBruijn64tab), ("curfew/field.ends", laid_curfew_field_ends)] }
def DueCatchSaid : Prop := dueCatchRow.holds Tryd.pinned (OpenSpec.ofChange dueCatchSpec)

/-- ITS FALSE NEIGHBOUR: 'it returns false'. Refute it at one input. -/
def dueCatchWrong : ChangeSpec := { name := "dueCatch", fn := fun _ => fun
  | [d1, d2] => { results := [.lit (.bool false)], args := [d1, d2] }
  | _ => none }
def DueCatchWrongFalsely : Prop := dueCatchRow.holds Tryd.pinned (OpenSpec.ofChange dueCatchWrong)

/-- 'curfewlaw13.DueAll': WHATEVER THE INPUT: true; the input reads as it did. -/
def dueAllSpec : ChangeSpec := { name := "dueAll", fn := fun _ => fun
  | [d1, d2, d3] => { results := [.lit (.bool true)], args := [d1, d2, d3] }
  | _ => none }
def dueAllRow : OpenClaim := { program := "ytiffoefhadgdnaadoor", sum := "c655ce9721af2405d1c7b639625322f83f8cc68f49145c9035f00ee0e2c3276e", func := "curfew/curfewlaw13.DueAll", spec := "dueAll", unfollowed := true, recurses := true, named := ["curfew/field.ends", "curfew/days.long", "math/bits.deBruijn64tab"], apart := false, laid := [("curfew/days.long", laid_curfew_days_long), ("math/bits.deBruijn64tab", laid_math_bits_deBruijn64tab), ("curfew/field.ends", laid_curfew_field_ends)] }
def DueAllSaid : Prop := dueAllRow.holds Tryd.pinned (OpenSpec.ofChange dueAllSpec)

/-- ITS FALSE NEIGHBOUR: 'it returns false'. Refute it at one input. -/
def dueAllWrong : ChangeSpec := { name := "dueAll", fn := fun _ => fun
  | [d1, d2, d3] => { results := [.lit (.bool false)], args := [d1, d2, d3] }
  | _ => none }
def DueAllWrongFalsely : Prop := dueAllRow.holds Tryd.pinned (OpenSpec.ofChange dueAllWrong)

/-- 'curfewlaw08.NextParts': WHATEVER THE INPUT: true; the input reads as it did. -/
def nextPartsSpec : ChangeSpec := { name := "nextParts", fn := fun _ => fun
  | [d1, d2, d3] => { results := [.lit (.bool true)], args := [d1, d2, d3] }
  | _ => none }
def nextPartsRow : OpenClaim := { program := "ytiffoefhadgdnaadoor", sum := "c655ce9721af2405d1c7b639625322f83f8cc68f49145c9035f00ee0e2c3276e", func := "curfew/curfewlaw08.NextParts", spec := "nextParts", unfollowed := true, recurses := true, named := ["curfew/field.ends", "curfew/days.long", "math/bits.deBruijn64tab"], apart := false, laid := [("curfew/days.long", laid_curfew_days_long), ("math/bits.deBruijn64tab", laid_math_bits_deBruijn64tab), ("curfew/field.ends", laid_curfew_field_ends)] }
def NextPartsSaid : Prop := nextPartsRow.holds Tryd.pinned (OpenSpec.ofChange nextPartsSpec)

/-- ITS FALSE NEIGHBOUR: 'it returns false'. Refute it at one input. -/
def nextPartsWrong : ChangeSpec := { name := "nextParts", fn := fun _ => fun
  | [d1, d2, d3] => { results := [.lit (.bool false)], args := [d1, d2, d3] }
  | _ => none }
def NextPartsWrongFalsely : Prop := nextPartsRow.holds Tryd.pinned (OpenSpec.ofChange nextPartsWrong)

/- THE SECOND FORM. 'bulk': how many values and letters a reading holds, each counted each time it is reached (what is shared counts as often as it is met; a slice's spare places count too). A statement '..UptoSaid' is the law's where the arguments, and the package variables that the reading takes, are together of bulk at most 1048576: NARROWER than '..Said'. Prove '..Said' where nothing that the law and all that it calls make is longer than what came in: it says more and counts as full. Else prove '..UptoSaid'. A law counts once. -/
mutual
def uptoBulk {H : Type} : DataW H → Nat
  | .lit (.string bytes) => bytes.length + 1
  | .lit _ => 1
  | .nil => 1
  | .ptr d => uptoBulk d + 1
  | .slice elems spare => uptoBulkAll elems + uptoBulkAll spare + 1
  | .agg parts => uptoBulkAll parts + 1
  | .iface _ d => uptoBulk d + 1
  | .map entries => uptoBulkEntries entries + 1
  | .held _ => 1
def uptoBulkAll {H : Type} : List (DataW H) → Nat
  | [] => 0
  | d :: r => uptoBulk d + uptoBulkAll r
def uptoBulkEntries {H : Type} : List (Lit × DataW H) → Nat
  | [] => 0
  | x :: r => uptoBulkEntry x + uptoBulkEntries r
def uptoBulkEntry {H : Type} : Lit × DataW H → Nat
  | (.string bytes, d) => bytes.length + uptoBulk d + 1
  | (_, d) => uptoBulk d + 1
 end
def uptoSmall : (H : Type) → List (DataW H) → Bool := fun _ ds => decide (uptoBulkAll ds ≤ 1048576)
def OpenSpec.upto (s : _root_.Go.ChangeSpec) : _root_.Go.OpenSpec := { _root_.Go.OpenSpec.ofChange s with cond := some uptoSmall }

/-- 'curfewlaw08.NextSome', WHERE WHAT IT READS IS OF BULK AT MOST 1048576: true; the input reads as it did. -/
def nextSomeUptoRow : OpenClaim := { program := "ytiffoefhadgdnaadoor", sum := "c655ce9721af2405d1c7b639625322f83f8cc68f49145c9035f00ee0e2c3276e", func := "curfew/curfewlaw08.NextSome", spec := "nextSome", unfollowed := true, recurses := true, named := ["curfew/field.ends", "curfew/days.long", "math/bits.deBruijn64tab"], apart := false, laid := [("curfew/days.long", laid_curfew_days_long), ("math/bits.deBruijn64tab", laid_math_bits_deBruijn64tab), ("curfew/field.ends", laid_curfew_field_ends)], narrowed := true }
def NextSomeUptoSaid : Prop := nextSomeUptoRow.holds Tryd.pinned (OpenSpec.upto nextSomeSpec)

/-- 'curfewlaw08.NextTurns', WHERE WHAT IT READS IS OF BULK AT MOST 1048576: true; the input reads as it did. -/
def nextTurnsUptoRow : OpenClaim := { program := "ytiffoefhadgdnaadoor", sum := "c655ce9721af2405d1c7b639625322f83f8cc68f49145c9035f00ee0e2c3276e", func := "curfew/curfewlaw08.NextTurns", spec := "nextTurns", unfollowed := true, recurses := true, named := ["curfew/field.ends", "curfew/days.long", "math/bits.deBruijn64tab"], apart := false, laid := [("curfew/days.long", laid_curfew_days_long), ("math/bits.deBruijn64tab", laid_math_bits_deBruijn64tab), ("curfew/field.ends", laid_curfew_field_ends)], narrowed := true }
def NextTurnsUptoSaid : Prop := nextTurnsUptoRow.holds Tryd.pinned (OpenSpec.upto nextTurnsSpec)

/-- 'curfewlaw08.NextTells', WHERE WHAT IT READS IS OF BULK AT MOST 1048576: true; the input reads as it did. -/
def nextTellsUptoRow : OpenClaim := { program := "ytiffoefhadgdnaadoor", sum := "c655ce9721af2405d1c7b639625322f83f8cc68f49145c9035f00ee0e2c3276e", func := "curfew/curfewlaw08.NextTells", spec := "nextTells", unfollowed := true, recurses := true, named := ["curfew/field.ends", "curfew/days.long", "math/bits.deBruijn64tab"], apart := false, laid := [("curfew/days.long", laid_curfew_days_long), ("math/bits.deBruijn64tab", laid_math_bits_deBruijn64tab), ("curfew/field.ends", laid_curfew_field_ends)], narrowed := true }
def NextTellsUptoSaid : Prop := nextTellsUptoRow.holds Tryd.pinned (OpenSpec.upto nextTellsSpec)

/-- 'curfewlaw08.NextEver', WHERE WHAT IT READS IS OF BULK AT MOST 1048576: true; the input reads as it did. -/
def nextEverUptoRow : OpenClaim := { program := "ytiffoefhadgdnaadoor", sum := "c655ce9721af2405d1c7b639625322f83f8cc68f49145c9035f00ee0e2c3276e", func := "curfew/curfewlaw08.NextEver", spec := "nextEver", unfollowed := true, recurses := true, named := ["curfew/field.ends", "curfew/days.long", "math/bits.deBruijn64tab"], apart := false, laid := [("curfew/days.long", laid_curfew_days_long), ("math/bits.deBruijn64tab", laid_math_bits_deBruijn64tab), ("curfew/field.ends", laid_curfew_field_ends)], narrowed := true }
def NextEverUptoSaid : Prop := nextEverUptoRow.holds Tryd.pinned (OpenSpec.upto nextEverSpec)

/-- 'curfewlaw08.NextTight', WHERE WHAT IT READS IS OF BULK AT MOST 1048576: true; the input reads as it did. -/
def nextTightUptoRow : OpenClaim := { program := "ytiffoefhadgdnaadoor", sum := "c655ce9721af2405d1c7b639625322f83f8cc68f49145c9035f00ee0e2c3276e", func := "curfew/curfewlaw08.NextTight", spec := "nextTight", unfollowed := true, recurses := true, named := ["curfew/field.ends", "curfew/days.long", "math/bits.deBruijn64tab"], apart := false, laid := [("curfew/days.long", laid_curfew_days_long), ("math/bits.deBruijn64tab", laid_math_bits_deBruijn64tab), ("curfew/field.ends", laid_curfew_field_ends)], narrowed := true }
def NextTightUptoSaid : Prop := nextTightUptoRow.holds Tryd.pinned (OpenSpec.upto nextTightSpec)

/-- 'curfewlaw13.DueRises', WHERE WHAT IT READS IS OF BULK AT MOST 1048576: true; the input reads as it did. -/
def dueRisesUptoRow : OpenClaim := { program := "ytiffoefhadgdnaadoor", sum := "c655ce9721af2405d1c7b639625322f83f8cc68f49145c9035f00ee0e2c3276e", func := "curfew/curfewlaw13.DueRises", spec := "dueRises", unfollowed := true, recurses := true, named := ["curfew/field.ends", "curfew/days.long", "math/bits.deBruijn64tab"], apart := false, laid := [("curfew/days.long", laid_curfew_days_long), ("math/bits.deBruijn64tab", laid_math_bits_deBruijn64tab), ("curfew/field.ends", laid_curfew_field_ends)], narrowed := true }
def DueRisesUptoSaid : Prop := dueRisesUptoRow.holds Tryd.pinned (OpenSpec.upto dueRisesSpec)

/-- 'curfewlaw13.DueCatch', WHERE WHAT IT READS IS OF BULK AT MOST 1048576: true; the input reads as it did. -/
def dueCatchUptoRow : OpenClaim := { program := "ytiffoefhadgdnaadoor", sum := "c655ce9721af2405d1c7b639625322f83f8cc68f49145c9035f00ee0e2c3276e", func := "curfew/curfewlaw13.DueCatch", spec := "dueCatch", unfollowed := true, recurses := true, named := ["curfew/field.ends", "curfew/days.long", "math/bits.deBruijn64tab"], apart := false, laid := [("curfew/days.long", laid_curfew_days_long), ("math/bits.deBruijn64tab", laid_math_bits_deBruijn64tab), ("curfew/field.ends", laid_curfew_field_ends)], narrowed := true }
def DueCatchUptoSaid : Prop := dueCatchUptoRow.holds Tryd.pinned (OpenSpec.upto dueCatchSpec)

/-- 'curfewlaw13.DueAll', WHERE WHAT IT READS IS OF BULK AT MOST 1048576: true; the input reads as it did. -/
def dueAllUptoRow : OpenClaim := { program := "ytiffoefhadgdnaadoor", sum := "c655ce9721af2405d1c7b639625322f83f8cc68f49145c9035f00ee0e2c3276e", func := "curfew/curfewlaw13.DueAll", spec := "dueAll", unfollowed := true, recurses := true, named := ["curfew/field.ends", "curfew/days.long", "math/bits.deBruijn64tab"], apart := false, laid := [("curfew/days.long", laid_curfew_days_long), ("math/bits.deBruijn64tab", laid_math_bits_deBruijn64tab), ("curfew/field.ends", laid_curfew_field_ends)], narrowed := true }
def DueAllUptoSaid : Prop := dueAllUptoRow.holds Tryd.pinned (OpenSpec.upto dueAllSpec)

/-- 'curfewlaw08.NextParts', WHERE WHAT IT READS IS OF BULK AT MOST 1048576: true; the input reads as it did. -/
def nextPartsUptoRow : OpenClaim := { program := "ytiffoefhadgdnaadoor", sum := "c655ce9721af2405d1c7b639625322f83f8cc68f49145c9035f00ee0e2c3276e", func := "curfew/curfewlaw08.NextParts", spec := "nextParts", unfollowed := true, recurses := true, named := ["curfew/field.ends", "curfew/days.long", "math/bits.deBruijn64tab"], apart := false, laid := [("curfew/days.long", laid_curfew_days_long), ("math/bits.deBruijn64tab", laid_math_bits_deBruijn64tab), ("curfew/field.ends", laid_curfew_field_ends)], narrowed := true }
def NextPartsUptoSaid : Prop := nextPartsUptoRow.holds Tryd.pinned (OpenSpec.upto nextPartsSpec)

end Rows
end Go.Proofs.YtiffoefhadgdnaaDoor
