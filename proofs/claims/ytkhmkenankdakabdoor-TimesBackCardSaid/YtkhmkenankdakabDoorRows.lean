/-
  NARROWER THAN 'FOR EVERY INPUT', by the rows' own cells (each row's printed sentence says how): TimesOrder: laid · TimesRead: laid · TimesTells: laid · TimesGoes: laid · TimesTexts: laid · TimesBack: laid.
  DERIVED. THE GIVEN ROWS OF THIS SEAT. 6 by the template 'for every input the law returns true; each argument reads behind the call as it read before'; 0 by the template 'total and deterministic' (their statements: YtkhmkenankdakabDoorTotals.lean).
  GIVEN WITH THE SEED: the statements are not yours to turn. If you find one false, say at which input.
  Laid BY PROGRAM, IN A SANDBOX (cutbox-rows.mjs): the forced cells as the released guide's own fill.sh prints them over the translation 65d443a268f0f42e… (all of the seat's roots in one cut). By AI agents, Wed Nov 11 2026. No macro, syntax, notation, axiom, sorry.
-/
import Derived.Test.YtkhmkenankdakabDoorChecked
import GoSem.Claim
import GoSem.ClaimJoined
import GoSem.ClaimMapViews
import Derived.JoinedTies
import Derived.KernelRfl
namespace Go.Proofs.YtkhmkenankdakabDoor
/- THE CELL 'sum', in the pinned program and in every row, IS THE sha256 OF THE DUMP (.gsa) THAT YtkhmkenankdakabDoorProg.lean LOADS. Nothing in Lean hashes anything: it is a label: what it is worth is what the hold of that sum in a sandbox is worth. -/
noncomputable def Tryd.pinned : Pinned := { name := "ytkhmkenankdakabdoor", sum := "65d443a268f0f42ec99dec96efa77344bd3b742afeeb01fa4657bd54e31096a4", checked := Tryd.checked }
namespace Rows
def none {H : Type} : Left H := { results := [], args := [] }

/- WHAT THE LISTED PACKAGE-LEVEL VARIABLES READ AS WHEN THE CALL BEGINS. Each datum BY PROGRAM (the guide's laid-datum.mjs) off the statement by which the dump's own 'gosem.cut.vars' lays the variable. In a bare row this is a premise. The card (YtkhmkenankdakabDoorCards.lean) ties it to the program's text. -/
def laid_curfew_days_long {H : Type} : DataW H := .agg [.lit (.int .i64 0), .lit (.int .i64 31), .lit (.int .i64 28), .lit (.int .i64 31), .lit (.int .i64 30), .lit (.int .i64 31), .lit (.int .i64 30), .lit (.int .i64 31), .lit (.int .i64 31), .lit (.int .i64 30), .lit (.int .i64 31), .lit (.int .i64 30), .lit (.int .i64 31)]

/-- 'curfewlaw05.TimesOrder': WHATEVER THE INPUT: true; the input reads as it did. -/
def timesOrderSpec : ChangeSpec := { name := "timesOrder", fn := fun _ => fun
  | [d1, d2, d3] => { results := [.lit (.bool true)], args := [d1, d2, d3] }
  | _ => none }
def timesOrderRow : OpenClaim := { program := "ytkhmkenankdakabdoor", sum := "65d443a268f0f42ec99dec96efa77344bd3b742afeeb01fa4657bd54e31096a4", func := "curfew/curfewlaw05.TimesOrder", spec := "timesOrder", unfollowed := true, recurses := true, named := ["curfew/days.long"], apart := false, laid := [("curfew/days.long", laid_curfew_days_long)] }
def TimesOrderSaid : Prop := timesOrderRow.holds Tryd.pinned (OpenSpec.ofChange timesOrderSpec)

/-- ITS FALSE NEIGHBOUR: 'it returns false'. Refute it at one input. -/
def timesOrderWrong : ChangeSpec := { name := "timesOrder", fn := fun _ => fun
  | [d1, d2, d3] => { results := [.lit (.bool false)], args := [d1, d2, d3] }
  | _ => none }
def TimesOrderWrongFalsely : Prop := timesOrderRow.holds Tryd.pinned (OpenSpec.ofChange timesOrderWrong)

/-- 'curfewlaw05.TimesRead': WHATEVER THE INPUT: true; the input reads as it did. -/
def timesReadSpec : ChangeSpec := { name := "timesRead", fn := fun _ => fun
  | [d1, d2, d3] => { results := [.lit (.bool true)], args := [d1, d2, d3] }
  | _ => none }
def timesReadRow : OpenClaim := { program := "ytkhmkenankdakabdoor", sum := "65d443a268f0f42ec99dec96efa77344bd3b742afeeb01fa4657bd54e31096a4", func := "curfew/curfewlaw05.TimesRead", spec := "timesRead", unfollowed := true, recurses := true, named := ["curfew/days.long"], apart := false, laid := [("curfew/days.long", laid_curfew_days_long)] }
def TimesReadSaid : Prop := timesReadRow.holds Tryd.pinned (OpenSpec.ofChange timesReadSpec)

/-- ITS FALSE NEIGHBOUR: 'it returns false'. Refute it at one input. -/
def timesReadWrong : ChangeSpec := { name := "timesRead", fn := fun _ => fun
  | [d1, d2, d3] => { results := [.lit (.bool false)], args := [d1, d2, d3] }
  | _ => none }
def TimesReadWrongFalsely : Prop := timesReadRow.holds Tryd.pinned (OpenSpec.ofChange timesReadWrong)

/-- 'curfewlaw05.TimesTells': WHATEVER THE INPUT: true; the input reads as it did. -/
def timesTellsSpec : ChangeSpec := { name := "timesTells", fn := fun _ => fun
  | [d1, d2] => { results := [.lit (.bool true)], args := [d1, d2] }
  | _ => none }
def timesTellsRow : OpenClaim := { program := "ytkhmkenankdakabdoor", sum := "65d443a268f0f42ec99dec96efa77344bd3b742afeeb01fa4657bd54e31096a4", func := "curfew/curfewlaw05.TimesTells", spec := "timesTells", unfollowed := true, recurses := true, named := ["curfew/days.long"], apart := false, laid := [("curfew/days.long", laid_curfew_days_long)] }
def TimesTellsSaid : Prop := timesTellsRow.holds Tryd.pinned (OpenSpec.ofChange timesTellsSpec)

/-- ITS FALSE NEIGHBOUR: 'it returns false'. Refute it at one input. -/
def timesTellsWrong : ChangeSpec := { name := "timesTells", fn := fun _ => fun
  | [d1, d2] => { results := [.lit (.bool false)], args := [d1, d2] }
  | _ => none }
def TimesTellsWrongFalsely : Prop := timesTellsRow.holds Tryd.pinned (OpenSpec.ofChange timesTellsWrong)

/-- 'curfewlaw05.TimesGoes': WHATEVER THE INPUT: true; the input reads as it did. -/
def timesGoesSpec : ChangeSpec := { name := "timesGoes", fn := fun _ => fun
  | [d] => { results := [.lit (.bool true)], args := [d] }
  | _ => none }
def timesGoesRow : OpenClaim := { program := "ytkhmkenankdakabdoor", sum := "65d443a268f0f42ec99dec96efa77344bd3b742afeeb01fa4657bd54e31096a4", func := "curfew/curfewlaw05.TimesGoes", spec := "timesGoes", unfollowed := true, recurses := true, named := ["curfew/days.long"], apart := false, laid := [("curfew/days.long", laid_curfew_days_long)] }
def TimesGoesSaid : Prop := timesGoesRow.holds Tryd.pinned (OpenSpec.ofChange timesGoesSpec)

/-- ITS FALSE NEIGHBOUR: 'it returns false'. Refute it at one input. -/
def timesGoesWrong : ChangeSpec := { name := "timesGoes", fn := fun _ => fun
  | [d] => { results := [.lit (.bool false)], args := [d] }
  | _ => none }
def TimesGoesWrongFalsely : Prop := timesGoesRow.holds Tryd.pinned (OpenSpec.ofChange timesGoesWrong)

/-- 'curfewlaw05.TimesTexts': WHATEVER THE INPUT: true; the input reads as it did. -/
def timesTextsSpec : ChangeSpec := { name := "timesTexts", fn := fun _ => fun
  | [d1, d2] => { results := [.lit (.bool true)], args := [d1, d2] }
  | _ => none }
def timesTextsRow : OpenClaim := { program := "ytkhmkenankdakabdoor", sum := "65d443a268f0f42ec99dec96efa77344bd3b742afeeb01fa4657bd54e31096a4", func := "curfew/curfewlaw05.TimesTexts", spec := "timesTexts", unfollowed := true, recurses := true, named := ["curfew/days.long"], apart := false, laid := [("curfew/days.long", laid_curfew_days_long)] }
def TimesTextsSaid : Prop := timesTextsRow.holds Tryd.pinned (OpenSpec.ofChange timesTextsSpec)

/-- ITS FALSE NEIGHBOUR: 'it returns false'. Refute it at one input. -/
def timesTextsWrong : ChangeSpec := { name := "timesTexts", fn := fun _ => fun
  | [d1, d2] => { results := [.lit (.bool false)], args := [d1, d2] }
  | _ => none }
def TimesTextsWrongFalsely : Prop := timesTextsRow.holds Tryd.pinned (OpenSpec.ofChange timesTextsWrong)

/-- 'curfewlaw05.TimesBack': WHATEVER THE INPUT: true; the input reads as it did. -/
def timesBackSpec : ChangeSpec := { name := "timesBack", fn := fun _ => fun
  | [d1, d2, d3] => { results := [.lit (.bool true)], args := [d1, d2, d3] }
  | _ => none }
def timesBackRow : OpenClaim := { program := "ytkhmkenankdakabdoor", sum := "65d443a268f0f42ec99dec96efa77344bd3b742afeeb01fa4657bd54e31096a4", func := "curfew/curfewlaw05.TimesBack", spec := "timesBack", unfollowed := true, recurses := true, named := ["curfew/days.long"], apart := false, laid := [("curfew/days.long", laid_curfew_days_long)] }
def TimesBackSaid : Prop := timesBackRow.holds Tryd.pinned (OpenSpec.ofChange timesBackSpec)

/-- ITS FALSE NEIGHBOUR: 'it returns false'. Refute it at one input. -/
def timesBackWrong : ChangeSpec := { name := "timesBack", fn := fun _ => fun
  | [d1, d2, d3] => { results := [.lit (.bool false)], args := [d1, d2, d3] }
  | _ => none }
def TimesBackWrongFalsely : Prop := timesBackRow.holds Tryd.pinned (OpenSpec.ofChange timesBackWrong)

/- THE SECOND FORM. 'bulk': how many values and letters a reading holds, each counted each time it is reached (what is shared counts as often as it is met; a slice's spare places count too). A statement '..UptoSaid' is the law's where the arguments, and the package variables that the reading takes, are together of bulk at most 1048576: NARROWER than '..Said'. Prove '..Said' where nothing that the law and all that it calls make is longer than what came in: it says more and counts as full. Else prove '..UptoSaid'. A law counts once. -/
mutual
def uptoBulk {H : Type} : DataW H → Nat
  | .lit (.string bytes) => bytes.length + 1
  | .lit _ => 1
  | .nil => 1
  | .ptr d => uptoBulk d + 1
  | .slice elems spare => uptoBulkAll elems + uptoBulkAll spare + 1
  | .agg parts => uptoBulkAll parts + 1
  | .iface _ d => uptoBulk d + 1
  | .map entries => uptoBulkEntries entries + 1
  | .held _ => 1
def uptoBulkAll {H : Type} : List (DataW H) → Nat
  | [] => 0
  | d :: r => uptoBulk d + uptoBulkAll r
def uptoBulkEntries {H : Type} : List (Lit × DataW H) → Nat
  | [] => 0
  | x :: r => uptoBulkEntry x + uptoBulkEntries r
def uptoBulkEntry {H : Type} : Lit × DataW H → Nat
  | (.string bytes, d) => bytes.length + uptoBulk d + 1
  | (_, d) => uptoBulk d + 1
 end
def uptoSmall : (H : Type) → List (DataW H) → Bool := fun _ ds => decide (uptoBulkAll ds ≤ 1048576)
def OpenSpec.upto (s : _root_.Go.ChangeSpec) : _root_.Go.OpenSpec := { _root_.Go.OpenSpec.ofChange s with cond := some uptoSmall }

/-- 'curfewlaw05.TimesOrder', WHERE WHAT IT READS IS OF BULK AT MOST 1048576: true; the input reads as it did. -/
def timesOrderUptoRow : OpenClaim := { program := "ytkhmkenankdakabdoor", sum := "65d443a268f0f42ec99dec96efa77344bd3b742afeeb01fa4657bd54e31096a4", func := "curfew/curfewlaw05.TimesOrder", spec := "timesOrder", unfollowed := true, recurses := true, named := ["curfew/days.long"], apart := false, laid := [("curfew/days.long", laid_curfew_days_long)], narrowed := true }
def TimesOrderUptoSaid : Prop := timesOrderUptoRow.holds Tryd.pinned (OpenSpec.upto timesOrderSpec)

/-- 'curfewlaw05.TimesRead', WHERE WHAT IT READS IS OF BULK AT MOST 1048576: true; the input reads as it did. -/
def timesReadUptoRow : OpenClaim := { program := "ytkhmkenankdakabdoor", sum := "65d443a268f0f42ec99dec96efa77344bd3b742afeeb01fa4657bd54e31096a4", func := "curfew/curfewlaw05.TimesRead", spec := "timesRead", unfollowed := true, recurses := true, named := ["curfew/days.long"], apart := false, laid := [("curfew/days.long", laid_curfew_days_long)], narrowed := true }
def TimesReadUptoSaid : Prop := timesReadUptoRow.holds Tryd.pinned (OpenSpec.upto timesReadSpec)

/-- 'curfewlaw05.TimesTells', WHERE WHAT IT READS IS OF BULK AT MOST 1048576: true; the input reads as it did. -/
def timesTellsUptoRow : OpenClaim := { program := "ytkhmkenankdakabdoor", sum := "65d443a268f0f42ec99dec96efa77344bd3b742afeeb01fa4657bd54e31096a4", func := "curfew/curfewlaw05.TimesTells", spec := "timesTells", unfollowed := true, recurses := true, named := ["curfew/days.long"], apart := false, laid := [("curfew/days.long", laid_curfew_days_long)], narrowed := true }
def TimesTellsUptoSaid : Prop := timesTellsUptoRow.holds Tryd.pinned (OpenSpec.upto timesTellsSpec)

/-- 'curfewlaw05.TimesGoes', WHERE WHAT IT READS IS OF BULK AT MOST 1048576: true; the input reads as it did. -/
def timesGoesUptoRow : OpenClaim := { program := "ytkhmkenankdakabdoor", sum := "65d443a268f0f42ec99dec96efa77344bd3b742afeeb01fa4657bd54e31096a4", func := "curfew/curfewlaw05.TimesGoes", spec := "timesGoes", unfollowed := true, recurses := true, named := ["curfew/days.long"], apart := false, laid := [("curfew/days.long", laid_curfew_days_long)], narrowed := true }
def TimesGoesUptoSaid : Prop := timesGoesUptoRow.holds Tryd.pinned (OpenSpec.upto timesGoesSpec)

/-- 'curfewlaw05.TimesTexts', WHERE WHAT IT READS IS OF BULK AT MOST 1048576: true; the input reads as it did. -/
def timesTextsUptoRow : OpenClaim := { program := "ytkhmkenankdakabdoor", sum := "65d443a268f0f42ec99dec96efa77344bd3b742afeeb01fa4657bd54e31096a4", func := "curfew/curfewlaw05.TimesTexts", spec := "timesTexts", unfollowed := true, recurses := true, named := ["curfew/days.long"], apart := false, laid := [("curfew/days.long", laid_curfew_days_long)], narrowed := true }
def TimesTextsUptoSaid : Prop := timesTextsUptoRow.holds Tryd.pinned (OpenSpec.upto timesTextsSpec)

/-- 'curfewlaw05.TimesBack', WHERE WHAT IT READS IS OF BULK AT MOST 1048576: true; the input reads as it did. -/
def timesBackUptoRow : OpenClaim := { program := "ytkhmkenankdakabdoor", sum := "65d443a268f0f42ec99dec96efa77344bd3b742afeeb01fa4657bd54e31096a4", func := "curfew/curfewlaw05.TimesBack", spec := "timesBack", unfollowed := true, recurses := true, named := ["curfew/days.long"], apart := false, laid := [("curfew/days.long", laid_curfew_days_long)], narrowed := true }
def TimesBackUptoSaid : Prop := timesBackUptoRow.holds Tryd.pinned (OpenSpec.upto timesBackSpec)

end Rows
end Go.Proofs.YtkhmkenankdakabDoor
