/- The walk of TimesTexts. -/
import Derived.Test.YtjmjfjhiggiglaaDoorLTexts
namespace Go.Proofs.YtjmjfjhiggiglaaDoor
open Go Go.B Go.RowKit
set_option linter.unusedVariables false
set_option linter.unusedSectionVars false
set_option maxRecDepth 100000

theorem walk_TimesTexts (a0 : Option Addr) (len0 cap0 : Nat) (a1 : Option Addr) (len1 cap1 : Nat) (w : World) (f0 : Sh.fits w (.slice 1 (.int .i64)) [.slice a0 len0 cap0]) (f1 : Sh.fits w (.slice 1 .str) [.slice a1 len1 cap1]) (hL : LaidOf w) :
    Calls Tryd.prog 3 #[.slice a0 len0 cap0, .slice a1 len1 cap1] w fun e w' => e = .returned (.bool true) ∧ Ext w w' := by
  obtain ⟨x0, d0, i0⟩ := sl_arg (t := (.int .i64)) (by decide) f0
  obtain ⟨x1, d1, i1⟩ := sl_arg (t := .str) (by decide) f1
  exact law_calls curfewlaw05_TimesTexts_ok (x := (x0, x1)) (law_TimesTexts x0 i0 x1 i1) (us := [.slice a0 len0 cap0, .slice a1 len1 cap1]) (w := w) (by
    show Ds _ [.sl (.int .i64) x0 none, .sl .str x1 none] _
    simp only [Ds]
    exact ⟨_, _, rfl, d0, _, _, rfl, d1, rfl⟩) hL
end Go.Proofs.YtjmjfjhiggiglaaDoor
