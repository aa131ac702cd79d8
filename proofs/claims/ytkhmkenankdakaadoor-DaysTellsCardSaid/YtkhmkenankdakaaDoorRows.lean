/-
  NARROWER THAN 'FOR EVERY INPUT', by the rows' own cells (each row's printed sentence says how): DaysNumbers: laid · DaysAdds: laid · DaysBack: laid · DaysTells: laid · DaysGo: laid · DaysEras: laid.
  DERIVED. THE GIVEN ROWS OF THIS SEAT. 6 by the template 'for every input the law returns true; each argument reads behind the call as it read before'; 0 by the template 'total and deterministic' (their statements: YtkhmkenankdakaaDoorTotals.lean).
  GIVEN WITH THE SEED: the statements are not yours to turn. If you find one false, say at which input.
  Laid BY PROGRAM, IN A SANDBOX (cutbox-rows.mjs): the forced cells as the released guide's own fill.sh prints them over the translation a0b38b578b6e6b78… (all of the seat's roots in one cut). By AI agents, Wed Nov 11 2026. No macro, syntax, notation, axiom, sorry.
-/
import Derived.Test.YtkhmkenankdakaaDoorChecked
import GoSem.Claim
import GoSem.ClaimJoined
import GoSem.ClaimMapViews
import Derived.JoinedTies
import Derived.KernelRfl
namespace Go.Proofs.YtkhmkenankdakaaDoor
/- THE CELL 'sum', in the pinned program and in every row, IS THE sha256 OF THE DUMP (.gsa) THAT YtkhmkenankdakaaDoorProg.lean LOADS. Nothing in Lean hashes anything: it is a label: what it is worth is what the hold of that sum in a sandbox is worth. -/
noncomputable def Tryd.pinned : Pinned := { name := "ytkhmkenankdakaadoor", sum := "a0b38b578b6e6b7862f22f68ed4a92587ec7e6340c3de503508d9a7bed2c376c", checked := Tryd.checked }
namespace Rows
def none {H : Type} : Left H := { results := [], args := [] }

/- WHAT THE LISTED PACKAGE-LEVEL VARIABLES READ AS WHEN THE CALL BEGINS. Each datum BY PROGRAM (the guide's laid-datum.mjs) off the statement by which the dump's own 'gosem.cut.vars' lays the variable. In a bare row this is a premise. The card (YtkhmkenankdakaaDoorCards.lean) ties it to the program's text. -/
def laid_curfew_days_long {H : Type} : DataW H := .agg [.lit (.int .i64 0), .lit (.int .i64 31), .lit (.int .i64 28), .lit (.int .i64 31), .lit (.int .i64 30), .lit (.int .i64 31), .lit (.int .i64 30), .lit (.int .i64 31), .lit (.int .i64 31), .lit (.int .i64 30), .lit (.int .i64 31), .lit (.int .i64 30), .lit (.int .i64 31)]

/-- 'curfewlaw04.DaysNumbers': WHATEVER THE INPUT: true; the input reads as it did. -/
def daysNumbersSpec : ChangeSpec := { name := "daysNumbers", fn := fun _ => fun
  | [d1, d2] => { results := [.lit (.bool true)], args := [d1, d2] }
  | _ => none }
def daysNumbersRow : OpenClaim := { program := "ytkhmkenankdakaadoor", sum := "a0b38b578b6e6b7862f22f68ed4a92587ec7e6340c3de503508d9a7bed2c376c", func := "curfew/curfewlaw04.DaysNumbers", spec := "daysNumbers", unfollowed := true, recurses := true, named := ["curfew/days.long"], apart := false, laid := [("curfew/days.long", laid_curfew_days_long)] }
def DaysNumbersSaid : Prop := daysNumbersRow.holds Tryd.pinned (OpenSpec.ofChange daysNumbersSpec)

/-- ITS FALSE NEIGHBOUR: 'it returns false'. Refute it at one input. -/
def daysNumbersWrong : ChangeSpec := { name := "daysNumbers", fn := fun _ => fun
  | [d1, d2] => { results := [.lit (.bool false)], args := [d1, d2] }
  | _ => none }
def DaysNumbersWrongFalsely : Prop := daysNumbersRow.holds Tryd.pinned (OpenSpec.ofChange daysNumbersWrong)

/-- 'curfewlaw04.DaysAdds': WHATEVER THE INPUT: true; the input reads as it did. -/
def daysAddsSpec : ChangeSpec := { name := "daysAdds", fn := fun _ => fun
  | [d1, d2] => { results := [.lit (.bool true)], args := [d1, d2] }
  | _ => none }
def daysAddsRow : OpenClaim := { program := "ytkhmkenankdakaadoor", sum := "a0b38b578b6e6b7862f22f68ed4a92587ec7e6340c3de503508d9a7bed2c376c", func := "curfew/curfewlaw04.DaysAdds", spec := "daysAdds", unfollowed := true, recurses := true, named := ["curfew/days.long"], apart := false, laid := [("curfew/days.long", laid_curfew_days_long)] }
def DaysAddsSaid : Prop := daysAddsRow.holds Tryd.pinned (OpenSpec.ofChange daysAddsSpec)

/-- ITS FALSE NEIGHBOUR: 'it returns false'. Refute it at one input. -/
def daysAddsWrong : ChangeSpec := { name := "daysAdds", fn := fun _ => fun
  | [d1, d2] => { results := [.lit (.bool false)], args := [d1, d2] }
  | _ => none }
def DaysAddsWrongFalsely : Prop := daysAddsRow.holds Tryd.pinned (OpenSpec.ofChange daysAddsWrong)

/-- 'curfewlaw04.DaysBack': WHATEVER THE INPUT: true; the input reads as it did. -/
def daysBackSpec : ChangeSpec := { name := "daysBack", fn := fun _ => fun
  | [d1, d2] => { results := [.lit (.bool true)], args := [d1, d2] }
  | _ => none }
def daysBackRow : OpenClaim := { program := "ytkhmkenankdakaadoor", sum := "a0b38b578b6e6b7862f22f68ed4a92587ec7e6340c3de503508d9a7bed2c376c", func := "curfew/curfewlaw04.DaysBack", spec := "daysBack", unfollowed := true, recurses := true, named := ["curfew/days.long"], apart := false, laid := [("curfew/days.long", laid_curfew_days_long)] }
def DaysBackSaid : Prop := daysBackRow.holds Tryd.pinned (OpenSpec.ofChange daysBackSpec)

/-- ITS FALSE NEIGHBOUR: 'it returns false'. Refute it at one input. -/
def daysBackWrong : ChangeSpec := { name := "daysBack", fn := fun _ => fun
  | [d1, d2] => { results := [.lit (.bool false)], args := [d1, d2] }
  | _ => none }
def DaysBackWrongFalsely : Prop := daysBackRow.holds Tryd.pinned (OpenSpec.ofChange daysBackWrong)

/-- 'curfewlaw04.DaysTells': WHATEVER THE INPUT: true; the input reads as it did. -/
def daysTellsSpec : ChangeSpec := { name := "daysTells", fn := fun _ => fun
  | [d1, d2, d3] => { results := [.lit (.bool true)], args := [d1, d2, d3] }
  | _ => none }
def daysTellsRow : OpenClaim := { program := "ytkhmkenankdakaadoor", sum := "a0b38b578b6e6b7862f22f68ed4a92587ec7e6340c3de503508d9a7bed2c376c", func := "curfew/curfewlaw04.DaysTells", spec := "daysTells", unfollowed := true, recurses := true, named := ["curfew/days.long"], apart := false, laid := [("curfew/days.long", laid_curfew_days_long)] }
def DaysTellsSaid : Prop := daysTellsRow.holds Tryd.pinned (OpenSpec.ofChange daysTellsSpec)

/-- ITS FALSE NEIGHBOUR: 'it returns false'. Refute it at one input. -/
def daysTellsWrong : ChangeSpec := { name := "daysTells", fn := fun _ => fun
  | [d1, d2, d3] => { results := [.lit (.bool false)], args := [d1, d2, d3] }
  | _ => none }
def DaysTellsWrongFalsely : Prop := daysTellsRow.holds Tryd.pinned (OpenSpec.ofChange daysTellsWrong)

/-- 'curfewlaw04.DaysGo': WHATEVER THE INPUT: true; the input reads as it did. -/
def daysGoSpec : ChangeSpec := { name := "daysGo", fn := fun _ => fun
  | [d] => { results := [.lit (.bool true)], args := [d] }
  | _ => none }
def daysGoRow : OpenClaim := { program := "ytkhmkenankdakaadoor", sum := "a0b38b578b6e6b7862f22f68ed4a92587ec7e6340c3de503508d9a7bed2c376c", func := "curfew/curfewlaw04.DaysGo", spec := "daysGo", unfollowed := true, recurses := true, named := ["curfew/days.long"], apart := false, laid := [("curfew/days.long", laid_curfew_days_long)] }
def DaysGoSaid : Prop := daysGoRow.holds Tryd.pinned (OpenSpec.ofChange daysGoSpec)

/-- ITS FALSE NEIGHBOUR: 'it returns false'. Refute it at one input. -/
def daysGoWrong : ChangeSpec := { name := "daysGo", fn := fun _ => fun
  | [d] => { results := [.lit (.bool false)], args := [d] }
  | _ => none }
def DaysGoWrongFalsely : Prop := daysGoRow.holds Tryd.pinned (OpenSpec.ofChange daysGoWrong)

/-- 'curfewlaw04.DaysEras': WHATEVER THE INPUT: true; the input reads as it did. -/
def daysErasSpec : ChangeSpec := { name := "daysEras", fn := fun _ => fun
  | [d1, d2, d3] => { results := [.lit (.bool true)], args := [d1, d2, d3] }
  | _ => none }
def daysErasRow : OpenClaim := { program := "ytkhmkenankdakaadoor", sum := "a0b38b578b6e6b7862f22f68ed4a92587ec7e6340c3de503508d9a7bed2c376c", func := "curfew/curfewlaw04.DaysEras", spec := "daysEras", unfollowed := true, recurses := true, named := ["curfew/days.long"], apart := false, laid := [("curfew/days.long", laid_curfew_days_long)] }
def DaysErasSaid : Prop := daysErasRow.holds Tryd.pinned (OpenSpec.ofChange daysErasSpec)

/-- ITS FALSE NEIGHBOUR: 'it returns false'. Refute it at one input. -/
def daysErasWrong : ChangeSpec := { name := "daysEras", fn := fun _ => fun
  | [d1, d2, d3] => { results := [.lit (.bool false)], args := [d1, d2, d3] }
  | _ => none }
def DaysErasWrongFalsely : Prop := daysErasRow.holds Tryd.pinned (OpenSpec.ofChange daysErasWrong)

/- THE SECOND FORM. 'bulk': how many values and letters a reading holds, each counted each time it is reached (what is shared counts as often as it is met; a slice's spare places count too). A statement '..UptoSaid' is the law's where the arguments, and the package variables that the reading takes, are together of bulk at most 1048576: NARROWER than '..Said'. Prove '..Said' where nothing that the law and all that it calls make is longer than what came in: it says more and counts as full. Else prove '..UptoSaid'. A law counts once. -/
mutual
def uptoBulk {H : Type} : DataW H → Nat
  | .lit (.string bytes) => bytes.length + 1
  | .lit _ => 1
  | .nil => 1
  | .ptr d => uptoBulk d + 1
  | .slice elems spare => uptoBulkAll elems + uptoBulkAll spare + 1
  | .agg parts => uptoBulkAll parts + 1
  | .iface _ d => uptoBulk d + 1
  | .map entries => uptoBulkEntries entries + 1
  | .held _ => 1
def uptoBulkAll {H : Type} : List (DataW H) → Nat
  | [] => 0
  | d :: r => uptoBulk d + uptoBulkAll r
def uptoBulkEntries {H : Type} : List (Lit × DataW H) → Nat
  | [] => 0
  | x :: r => uptoBulkEntry x + uptoBulkEntries r
def uptoBulkEntry {H : Type} : Lit × DataW H → Nat
  | (.string bytes, d) => bytes.length + uptoBulk d + 1
  | (_, d) => uptoBulk d + 1
 end
def uptoSmall : (H : Type) → List (DataW H) → Bool := fun _ ds => decide (uptoBulkAll ds ≤ 1048576)
def OpenSpec.upto (s : _root_.Go.ChangeSpec) : _root_.Go.OpenSpec := { _root_.Go.OpenSpec.ofChange s with cond := some uptoSmall }

/-- 'curfewlaw04.DaysNumbers', WHERE WHAT IT READS IS OF BULK AT MOST 1048576: true; the input reads as it did. -/
def daysNumbersUptoRow : OpenClaim := { program := "ytkhmkenankdakaadoor", sum := "a0b38b578b6e6b7862f22f68ed4a92587ec7e6340c3de503508d9a7bed2c376c", func := "curfew/curfewlaw04.DaysNumbers", spec := "daysNumbers", unfollowed := true, recurses := true, named := ["curfew/days.long"], apart := false, laid := [("curfew/days.long", laid_curfew_days_long)], narrowed := true }
def DaysNumbersUptoSaid : Prop := daysNumbersUptoRow.holds Tryd.pinned (OpenSpec.upto daysNumbersSpec)

/-- 'curfewlaw04.DaysAdds', WHERE WHAT IT READS IS OF BULK AT MOST 1048576: true; the input reads as it did. -/
def daysAddsUptoRow : OpenClaim := { program := "ytkhmkenankdakaadoor", sum := "a0b38b578b6e6b7862f22f68ed4a92587ec7e6340c3de503508d9a7bed2c376c", func := "curfew/curfewlaw04.DaysAdds", spec := "daysAdds", unfollowed := true, recurses := true, named := ["curfew/days.long"], apart := false, laid := [("curfew/days.long", laid_curfew_days_long)], narrowed := true }
def DaysAddsUptoSaid : Prop := daysAddsUptoRow.holds Tryd.pinned (OpenSpec.upto daysAddsSpec)

/-- 'curfewlaw04.DaysBack', WHERE WHAT IT READS IS OF BULK AT MOST 1048576: true; the input reads as it did. -/
def daysBackUptoRow : OpenClaim := { program := "ytkhmkenankdakaadoor", sum := "a0b38b578b6e6b7862f22f68ed4a92587ec7e6340c3de503508d9a7bed2c376c", func := "curfew/curfewlaw04.DaysBack", spec := "daysBack", unfollowed := true, recurses := true, named := ["curfew/days.long"], apart := false, laid := [("curfew/days.long", laid_curfew_days_long)], narrowed := true }
def DaysBackUptoSaid : Prop := daysBackUptoRow.holds Tryd.pinned (OpenSpec.upto daysBackSpec)

/-- 'curfewlaw04.DaysTells', WHERE WHAT IT READS IS OF BULK AT MOST 1048576: true; the input reads as it did. -/
def daysTellsUptoRow : OpenClaim := { program := "ytkhmkenankdakaadoor", sum := "a0b38b578b6e6b7862f22f68ed4a92587ec7e6340c3de503508d9a7bed2c376c", func := "curfew/curfewlaw04.DaysTells", spec := "daysTells", unfollowed := true, recurses := true, named := ["curfew/days.long"], apart := false, laid := [("curfew/days.long", laid_curfew_days_long)], narrowed := true }
def DaysTellsUptoSaid : Prop := daysTellsUptoRow.holds Tryd.pinned (OpenSpec.upto daysTellsSpec)

/-- 'curfewlaw04.DaysGo', WHERE WHAT IT READS IS OF BULK AT MOST 1048576: true; the input reads as it did. -/
def daysGoUptoRow : OpenClaim := { program := "ytkhmkenankdakaadoor", sum := "a0b38b578b6e6b7862f22f68ed4a92587ec7e6340c3de503508d9a7bed2c376c", func := "curfew/curfewlaw04.DaysGo", spec := "daysGo", unfollowed := true, recurses := true, named := ["curfew/days.long"], apart := false, laid := [("curfew/days.long", laid_curfew_days_long)], narrowed := true }
def DaysGoUptoSaid : Prop := daysGoUptoRow.holds Tryd.pinned (OpenSpec.upto daysGoSpec)

/-- 'curfewlaw04.DaysEras', WHERE WHAT IT READS IS OF BULK AT MOST 1048576: true; the input reads as it did. -/
def daysErasUptoRow : OpenClaim := { program := "ytkhmkenankdakaadoor", sum := "a0b38b578b6e6b7862f22f68ed4a92587ec7e6340c3de503508d9a7bed2c376c", func := "curfew/curfewlaw04.DaysEras", spec := "daysEras", unfollowed := true, recurses := true, named := ["curfew/days.long"], apart := false, laid := [("curfew/days.long", laid_curfew_days_long)], narrowed := true }
def DaysErasUptoSaid : Prop := daysErasUptoRow.holds Tryd.pinned (OpenSpec.upto daysErasSpec)

end Rows
end Go.Proofs.YtkhmkenankdakaaDoor
