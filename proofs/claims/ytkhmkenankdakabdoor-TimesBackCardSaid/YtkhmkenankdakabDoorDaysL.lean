/- The laws of package days, walked: what each answers, out of the contracts. -/
import Derived.Test.YtkhmkenankdakabDoorDaysE
import Derived.Test.YtkhmkenankdakabDoorOpen
import Derived.Lib.LaidTab
namespace Go.Proofs.YtkhmkenankdakabDoor
open Go Go.RowKit
set_option linter.unusedSimpArgs false
set_option linter.unusedVariables false

theorem num_wake : Cal.num 2000 3 1 = 11017 := by decide

theorem dat_789 : Cal.dat 789 = (1972, 2, 29) := Cal.dat_of (by decide) (by decide)

theorem dat_wake : Cal.dat (Cal.num 2024 2 28 + 2) = (2024, 3, 1) := Cal.dat_of (by decide) (by decide)

theorem at_789 (w : World) : Calls Tryd.prog 37 #[.int .i64 789] w fun e w' => e = .returned (.tuple #[.agg #[.int .i64 1972, .int .i64 2, .int .i64 29], .int .i64 0]) ∧ Ext w w' := by
  have h := at_yes 789 w (by decide)
  rw [dat_789] at h; exact h

theorem of_wake (w : World) (hL : DaysLaid w) : Calls Tryd.prog 29 #[.agg #[.int .i64 2000, .int .i64 3, .int .i64 1]] w fun e w' => e = .returned (.tuple #[.int .i64 11017, .int .i64 0]) ∧ Ext w w' := by
  have h := of_yes 2000 3 1 w hL (by decide)
  rw [num_wake] at h; exact h

/-- a date that came in -/
theorem date_of {w : World} {c : Array Value} (h : Sh.fits w (.field 0 1 (.int .i64) (.field 1 1 (.int .i64) (.field 2 1 (.int .i64) (.stop 3)))) c.toList) :
    ∃ y m d : Int, c = #[.int .i64 y, .int .i64 m, .int .i64 d] ∧ (-9223372036854775808 ≤ y ∧ y ≤ 9223372036854775807) ∧ (-9223372036854775808 ≤ m ∧ m ≤ 9223372036854775807) ∧ (-9223372036854775808 ≤ d ∧ d ≤ 9223372036854775807) := by
  obtain ⟨l⟩ := c
  obtain ⟨⟨y, h1, w1⟩, ⟨m, h2, w2⟩, ⟨d, h3, w3⟩, h4⟩ := h
  match l, h4 with
  | [a, b, c], _ =>
    simp at h1 h2 h3
    subst h1; subst h2; subst h3
    exact ⟨y, m, d, rfl, i64_range w1, i64_range w2, i64_range w3⟩

theorem at_num (y m d : Int) (w : World) (h : Cal.okd y m d = true) : Calls Tryd.prog 37 #[.int .i64 (Cal.num y m d)] w fun e w' => e = .returned (.tuple #[.agg #[.int .i64 y, .int .i64 m, .int .i64 d], .int .i64 0]) ∧ Ext w w' := by
  have b := Cal.num_bd h
  have k := at_yes (Cal.num y m d) w (by simp [dayB]; omega)
  rw [Cal.dat_num h] at k; exact k

theorem of_dat (n : Int) (w : World) (hL : DaysLaid w) (h : dayB n = true) : Calls Tryd.prog 29 #[.agg #[.int .i64 (Cal.dat n).1, .int .i64 (Cal.dat n).2.1, .int .i64 (Cal.dat n).2.2]] w fun e w' => e = .returned (.tuple #[.int .i64 n, .int .i64 0]) ∧ Ext w w' := by
  obtain ⟨h1, h2⟩ := dayB_true h
  obtain ⟨o1, o2⟩ := Cal.dat_ok n h1 h2
  have k := of_yes _ _ _ w hL o1
  rw [o2] at k; exact k

theorem check_dat (n : Int) (w : World) (hL : DaysLaid w) (h : dayB n = true) : Calls Tryd.prog 40 #[.agg #[.int .i64 (Cal.dat n).1, .int .i64 (Cal.dat n).2.1, .int .i64 (Cal.dat n).2.2]] w fun e w' => e = .returned (.int .i64 0) ∧ Ext w w' := by
  obtain ⟨h1, h2⟩ := dayB_true h
  exact check_yes _ _ _ w hL (Cal.dat_ok n h1 h2).1

theorem rem_bd (a m : Int) (h0 : 0 < m) (h1 : m ≤ 9223372036854775807) : IntKind.u64.wrap a % m = wrap64 ((IntKind.u64.wrap a).tmod m) ∧ 0 ≤ wrap64 ((IntKind.u64.wrap a).tmod m) ∧ wrap64 ((IntKind.u64.wrap a).tmod m) < m := by
  have h2 : 0 ≤ IntKind.u64.wrap a := by simp [IntKind.wrap, IntKind.signed, IntKind.bits]; omega
  have h3 := Int.emod_nonneg (IntKind.u64.wrap a) (show m ≠ 0 by omega)
  have h4 := Int.emod_lt_of_pos (IntKind.u64.wrap a) h0
  rw [Int.tmod_eq_emod_of_nonneg h2]
  unfold wrap64
  omega

/-- what the row's condition gives: the table of the months' lengths -/
def LaidOf (w : World) : Prop := DaysLaid w

theorem gLong : Tryd.prog.globalNamed "curfew/days.long" = some 0 := by kernel_rfl

theorem laidOf_met {W : World} (h : laidMet Tryd.prog [("curfew/days.long", Lib.tabData .i64 longTab)] W) : LaidOf W := by
  have t := Lib.tabIs_of_head gLong (t := 87) (by kernel_rfl) Tryd.underlying87 Tryd.underlying3 (by kernel_rfl) (by kernel_rfl) h
  have hc : ∀ i, i < 13 → W.cell? ⟨0, i, none⟩ = some (.int .i64 (longTab.getD i 0)) := fun i hi => t.cell gLong i hi
  refine ⟨?_, hc⟩
  have h0 := hc 0 (by omega)
  rcases Nat.lt_or_ge 0 W.heap.size with k | k
  · exact k
  · simp [World.cell?, Array.getElem?_eq_none k] at h0

end Go.Proofs.YtkhmkenankdakabDoor
