/- The laws of package days, walked: what each answers, out of the contracts. -/
import Derived.Test.YtkhmkenankdakaaDoorDaysE
import Derived.Test.YtkhmkenankdakaaDoorOpen
import Derived.Lib.LaidTab
namespace Go.Proofs.YtkhmkenankdakaaDoor
open Go Go.RowKit
set_option linter.unusedSimpArgs false
set_option linter.unusedVariables false

theorem num_wake : Cal.num 2000 3 1 = 11017 := by decide
theorem dat_789 : Cal.dat 789 = (1972, 2, 29) := Cal.dat_of (by decide) (by decide)
theorem dat_wake : Cal.dat (Cal.num 2024 2 28 + 2) = (2024, 3, 1) := Cal.dat_of (by decide) (by decide)
theorem at_789 (w : World) : Calls Tryd.prog 13 #[.int .i64 789] w fun e w' => e = .returned (.tuple #[.agg #[.int .i64 1972, .int .i64 2, .int .i64 29], .int .i64 0]) ∧ Ext w w' := by
  have h := at_yes 789 w (by decide)
  rw [dat_789] at h; exact h
theorem of_wake (w : World) (hL : DaysLaid w) : Calls Tryd.prog 10 #[.agg #[.int .i64 2000, .int .i64 3, .int .i64 1]] w fun e w' => e = .returned (.tuple #[.int .i64 11017, .int .i64 0]) ∧ Ext w w' := by
  have h := of_yes 2000 3 1 w hL (by decide)
  rw [num_wake] at h; exact h
theorem add_wake (w : World) (hL : DaysLaid w) : Calls Tryd.prog 18 #[.agg #[.int .i64 2024, .int .i64 2, .int .i64 28], .int .i64 2] w fun e w' => e = .returned (.tuple #[.agg #[.int .i64 2024, .int .i64 3, .int .i64 1], .int .i64 0]) ∧ Ext w w' := by
  have h := add_in 2024 2 28 2 w hL (by decide) (by decide)
  rw [dat_wake] at h; exact h

set_option maxHeartbeats 1000000 in
theorem daysWakes (w : World) (hL : DaysLaid w) : Calls Tryd.prog 9 #[] w fun e w' => e = .returned (.bool true) ∧ Ext w w' := by
  go_enter Tryd.func9, Tryd.ntmps9
  go_wp2_with (first | (go_at_call 10; (with_reducible refine (of_wake _ hL).mono ?_); rintro e w1 ⟨rfl, E1⟩; have hc1 := E1.2.1; have hf1 := E1.2.2; have hz1 := E1.size; (try simp [Nat.add_one_le_iff] at hz1)) | (go_at_call 13; (with_reducible refine (at_789 _).mono ?_); rintro e w2 ⟨rfl, E2⟩; have hc2 := E2.2.1; have hf2 := E2.2.2; have hz2 := E2.size; (try simp [Nat.add_one_le_iff] at hz2)) | (go_at_call 14; (with_reducible refine (weekday_yes 3 _ (by decide)).mono ?_); rintro e w3 ⟨rfl, rfl⟩) | (go_at_call 18; (with_reducible refine (add_wake _ (hL.ext (by (repeat (first | with_reducible exact Ext.refl _ | with_reducible assumption | exact Ext.mk (by with_reducible assumption) | with_reducible refine Ext.alloc ?_ _ | with_reducible refine Ext.drewN ?_ _ | with_reducible refine Ext.drew ?_ | with_reducible refine Ext.setCell ?_ (by simp; try omega) _ | (with_reducible refine Ext.trans ?_ (by with_reducible assumption))))))).mono ?_); rintro e w4 ⟨rfl, E4⟩; have hc4 := E4.2.1; have hf4 := E4.2.2; have hz4 := E4.size; (try simp [Nat.add_one_le_iff] at hz4)))
  go_ret
  refine ⟨rfl, ?_⟩
  (repeat (first | with_reducible exact Ext.refl _ | with_reducible assumption | exact Ext.mk (by with_reducible assumption) | with_reducible refine Ext.alloc ?_ _ | with_reducible refine Ext.drewN ?_ _ | with_reducible refine Ext.drew ?_ | with_reducible refine Ext.setCell ?_ (by simp; try omega) _ | (with_reducible refine Ext.trans ?_ (by with_reducible assumption))))

/-- a date that came in -/
theorem date_of {w : World} {c : Array Value} (h : Sh.fits w (.field 0 1 (.int .i64) (.field 1 1 (.int .i64) (.field 2 1 (.int .i64) (.stop 3)))) c.toList) :
    ∃ y m d : Int, c = #[.int .i64 y, .int .i64 m, .int .i64 d] ∧ (-9223372036854775808 ≤ y ∧ y ≤ 9223372036854775807) ∧ (-9223372036854775808 ≤ m ∧ m ≤ 9223372036854775807) ∧ (-9223372036854775808 ≤ d ∧ d ≤ 9223372036854775807) := by
  obtain ⟨l⟩ := c
  obtain ⟨⟨y, h1, w1⟩, ⟨m, h2, w2⟩, ⟨d, h3, w3⟩, h4⟩ := h
  match l, h4 with
  | [a, b, c], _ =>
    simp at h1 h2 h3
    subst h1; subst h2; subst h3
    exact ⟨y, m, d, rfl, i64_range w1, i64_range w2, i64_range w3⟩

theorem at_num (y m d : Int) (w : World) (h : Cal.okd y m d = true) : Calls Tryd.prog 13 #[.int .i64 (Cal.num y m d)] w fun e w' => e = .returned (.tuple #[.agg #[.int .i64 y, .int .i64 m, .int .i64 d], .int .i64 0]) ∧ Ext w w' := by
  have b := Cal.num_bd h
  have k := at_yes (Cal.num y m d) w (by simp [dayB]; omega)
  rw [Cal.dat_num h] at k; exact k
theorem of_dat (n : Int) (w : World) (hL : DaysLaid w) (h : dayB n = true) : Calls Tryd.prog 10 #[.agg #[.int .i64 (Cal.dat n).1, .int .i64 (Cal.dat n).2.1, .int .i64 (Cal.dat n).2.2]] w fun e w' => e = .returned (.tuple #[.int .i64 n, .int .i64 0]) ∧ Ext w w' := by
  obtain ⟨h1, h2⟩ := dayB_true h
  obtain ⟨o1, o2⟩ := Cal.dat_ok n h1 h2
  have k := of_yes _ _ _ w hL o1
  rw [o2] at k; exact k
theorem check_dat (n : Int) (w : World) (hL : DaysLaid w) (h : dayB n = true) : Calls Tryd.prog 19 #[.agg #[.int .i64 (Cal.dat n).1, .int .i64 (Cal.dat n).2.1, .int .i64 (Cal.dat n).2.2]] w fun e w' => e = .returned (.int .i64 0) ∧ Ext w w' := by
  obtain ⟨h1, h2⟩ := dayB_true h
  exact check_yes _ _ _ w hL (Cal.dat_ok n h1 h2).1

theorem rem_bd (a m : Int) (h0 : 0 < m) (h1 : m ≤ 9223372036854775807) : IntKind.u64.wrap a % m = wrap64 ((IntKind.u64.wrap a).tmod m) ∧ 0 ≤ wrap64 ((IntKind.u64.wrap a).tmod m) ∧ wrap64 ((IntKind.u64.wrap a).tmod m) < m := by
  have h2 : 0 ≤ IntKind.u64.wrap a := by simp [IntKind.wrap, IntKind.signed, IntKind.bits]; omega
  have h3 := Int.emod_nonneg (IntKind.u64.wrap a) (show m ≠ 0 by omega)
  have h4 := Int.emod_lt_of_pos (IntKind.u64.wrap a) h0
  rw [Int.tmod_eq_emod_of_nonneg h2]
  unfold wrap64
  omega

set_option maxHeartbeats 1000000 in
theorem walk_DaysBack (c0 : Array Value) (a1 : Int) (w : World) (f0 : Sh.fits w (.field 0 1 (.int .i64) (.field 1 1 (.int .i64) (.field 2 1 (.int .i64) (.stop 3)))) c0.toList) (w1 : (Lit.int .i64 a1).wf = true) (hL : DaysLaid w) :
    Calls Tryd.prog 5 #[.agg c0, .int .i64 a1] w fun e w' => e = .returned (.bool true) ∧ Ext w w' := by
  obtain ⟨y, m, d, rfl, hy, hm, hd⟩ := date_of f0
  obtain ⟨r1, r2⟩ := i64_range w1
  clear w1 f0 hy hm hd
  obtain ⟨_, n1, n2⟩ := rem_bd a1 2932897 (by omega) (by omega)
  obtain ⟨n, hn⟩ : ∃ n, wrap64 ((IntKind.u64.wrap a1).tmod 2932897) = n := ⟨_, rfl⟩
  rw [hn] at n1 n2
  have hday : Hid (dayB n = true) := by show _ = _; simp [dayB]; omega
  cases ho : Cal.okd y m d
  · have HO := Lib.hid ho
    clear ho
    go_enter Tryd.func5, Tryd.ntmps5
    go_wp2_with (first | (go_at_call 9; (with_reducible refine (daysWakes _ (hL.ext (by (repeat (first | with_reducible exact Ext.refl _ | with_reducible assumption | exact Ext.mk (by with_reducible assumption) | with_reducible refine Ext.alloc ?_ _ | with_reducible refine Ext.drewN ?_ _ | with_reducible refine Ext.drew ?_ | with_reducible refine Ext.setCell ?_ (by simp; try omega) _ | (with_reducible refine Ext.trans ?_ (by with_reducible assumption))))))).mono ?_); rintro e w1 ⟨rfl, E1⟩; have hc1 := E1.2.1; have hf1 := E1.2.2; have hz1 := E1.size; (try simp [Nat.add_one_le_iff] at hz1); have F1 : Ext (w.alloc (.cells #[.int .i64 y, .int .i64 m, .int .i64 d] 26)) w1 := (by (repeat (first | with_reducible exact Ext.refl _ | with_reducible assumption | exact Ext.mk (by with_reducible assumption) | with_reducible refine Ext.alloc ?_ _ | with_reducible refine Ext.drewN ?_ _ | with_reducible refine Ext.drew ?_ | with_reducible refine Ext.setCell ?_ (by simp; try omega) _ | (with_reducible refine Ext.trans ?_ (by with_reducible assumption))))); have kc1 := F1.2.1; have kf1 := F1.2.2; have kz1 := F1.size; (try simp [Nat.add_one_le_iff] at kz1)) | (go_at_call 10; (with_reducible refine (of_no _ _ _ _ (hL.ext (by (repeat (first | with_reducible exact Ext.refl _ | with_reducible assumption | exact Ext.mk (by with_reducible assumption) | with_reducible refine Ext.alloc ?_ _ | with_reducible refine Ext.drewN ?_ _ | with_reducible refine Ext.drew ?_ | with_reducible refine Ext.setCell ?_ (by simp; try omega) _ | (with_reducible refine Ext.trans ?_ (by with_reducible assumption)))))) HO.out).mono ?_); rintro e w2 ⟨rfl, E2⟩; have hc2 := E2.2.1; have hf2 := E2.2.2; have hz2 := E2.size; (try simp [Nat.add_one_le_iff] at hz2); have F2 : Ext (w.alloc (.cells #[.int .i64 y, .int .i64 m, .int .i64 d] 26)) w2 := (by (repeat (first | with_reducible exact Ext.refl _ | with_reducible assumption | exact Ext.mk (by with_reducible assumption) | with_reducible refine Ext.alloc ?_ _ | with_reducible refine Ext.drewN ?_ _ | with_reducible refine Ext.drew ?_ | with_reducible refine Ext.setCell ?_ (by simp; try omega) _ | (with_reducible refine Ext.trans ?_ (by with_reducible assumption))))); have kc2 := F2.2.1; have kf2 := F2.2.2; have kz2 := F2.size; (try simp [Nat.add_one_le_iff] at kz2)))
    go_wp2_with (first | (go_at_call 13; (with_reducible refine (at_yes n _ hday.out).mono ?_); rintro e w4 ⟨rfl, E4⟩; have hc4 := E4.2.1; have hf4 := E4.2.2; have hz4 := E4.size; (try simp [Nat.add_one_le_iff] at hz4); have F4 : Ext (w.alloc (.cells #[.int .i64 y, .int .i64 m, .int .i64 d] 26)) w4 := (by (repeat (first | with_reducible exact Ext.refl _ | with_reducible assumption | exact Ext.mk (by with_reducible assumption) | with_reducible refine Ext.alloc ?_ _ | with_reducible refine Ext.drewN ?_ _ | with_reducible refine Ext.drew ?_ | with_reducible refine Ext.setCell ?_ (by simp; try omega) _ | (with_reducible refine Ext.trans ?_ (by with_reducible assumption))))); have kc4 := F4.2.1; have kf4 := F4.2.2; have kz4 := F4.size; (try simp [Nat.add_one_le_iff] at kz4)) | (go_at_call 10; (with_reducible refine (of_dat n _ (hL.ext (by (repeat (first | with_reducible exact Ext.refl _ | with_reducible assumption | exact Ext.mk (by with_reducible assumption) | with_reducible refine Ext.alloc ?_ _ | with_reducible refine Ext.drewN ?_ _ | with_reducible refine Ext.drew ?_ | with_reducible refine Ext.setCell ?_ (by simp; try omega) _ | (with_reducible refine Ext.trans ?_ (by with_reducible assumption)))))) hday.out).mono ?_); rintro e w5 ⟨rfl, E5⟩; have hc5 := E5.2.1; have hf5 := E5.2.2; have hz5 := E5.size; (try simp [Nat.add_one_le_iff] at hz5); have F5 : Ext (w.alloc (.cells #[.int .i64 y, .int .i64 m, .int .i64 d] 26)) w5 := (by (repeat (first | with_reducible exact Ext.refl _ | with_reducible assumption | exact Ext.mk (by with_reducible assumption) | with_reducible refine Ext.alloc ?_ _ | with_reducible refine Ext.drewN ?_ _ | with_reducible refine Ext.drew ?_ | with_reducible refine Ext.setCell ?_ (by simp; try omega) _ | (with_reducible refine Ext.trans ?_ (by with_reducible assumption))))); have kc5 := F5.2.1; have kf5 := F5.2.2; have kz5 := F5.size; (try simp [Nat.add_one_le_iff] at kz5)) | (go_at_call 19; (with_reducible refine (check_dat n _ (hL.ext (by (repeat (first | with_reducible exact Ext.refl _ | with_reducible assumption | exact Ext.mk (by with_reducible assumption) | with_reducible refine Ext.alloc ?_ _ | with_reducible refine Ext.drewN ?_ _ | with_reducible refine Ext.drew ?_ | with_reducible refine Ext.setCell ?_ (by simp; try omega) _ | (with_reducible refine Ext.trans ?_ (by with_reducible assumption)))))) hday.out).mono ?_); rintro e w6 ⟨rfl, E6⟩; have hc6 := E6.2.1; have hf6 := E6.2.2; have hz6 := E6.size; (try simp [Nat.add_one_le_iff] at hz6); have F6 : Ext (w.alloc (.cells #[.int .i64 y, .int .i64 m, .int .i64 d] 26)) w6 := (by (repeat (first | with_reducible exact Ext.refl _ | with_reducible assumption | exact Ext.mk (by with_reducible assumption) | with_reducible refine Ext.alloc ?_ _ | with_reducible refine Ext.drewN ?_ _ | with_reducible refine Ext.drew ?_ | with_reducible refine Ext.setCell ?_ (by simp; try omega) _ | (with_reducible refine Ext.trans ?_ (by with_reducible assumption))))); have kc6 := F6.2.1; have kf6 := F6.2.2; have kz6 := F6.size; (try simp [Nat.add_one_le_iff] at kz6)))
    go_ret
    refine ⟨rfl, ?_⟩
    (repeat (first | with_reducible exact Ext.refl _ | with_reducible assumption | exact Ext.mk (by with_reducible assumption) | with_reducible refine Ext.alloc ?_ _ | with_reducible refine Ext.drewN ?_ _ | with_reducible refine Ext.drew ?_ | with_reducible refine Ext.setCell ?_ (by simp; try omega) _ | (with_reducible refine Ext.trans ?_ (by with_reducible assumption))))
  · have HO := Lib.hid ho
    obtain ⟨b1, b2⟩ := Cal.num_bd ho
    clear ho
    go_enter Tryd.func5, Tryd.ntmps5
    go_wp2_with (first | (go_at_call 9; (with_reducible refine (daysWakes _ (hL.ext (by (repeat (first | with_reducible exact Ext.refl _ | with_reducible assumption | exact Ext.mk (by with_reducible assumption) | with_reducible refine Ext.alloc ?_ _ | with_reducible refine Ext.drewN ?_ _ | with_reducible refine Ext.drew ?_ | with_reducible refine Ext.setCell ?_ (by simp; try omega) _ | (with_reducible refine Ext.trans ?_ (by with_reducible assumption))))))).mono ?_); rintro e w1 ⟨rfl, E1⟩; have hc1 := E1.2.1; have hf1 := E1.2.2; have hz1 := E1.size; (try simp [Nat.add_one_le_iff] at hz1); have F1 : Ext (w.alloc (.cells #[.int .i64 y, .int .i64 m, .int .i64 d] 26)) w1 := (by (repeat (first | with_reducible exact Ext.refl _ | with_reducible assumption | exact Ext.mk (by with_reducible assumption) | with_reducible refine Ext.alloc ?_ _ | with_reducible refine Ext.drewN ?_ _ | with_reducible refine Ext.drew ?_ | with_reducible refine Ext.setCell ?_ (by simp; try omega) _ | (with_reducible refine Ext.trans ?_ (by with_reducible assumption))))); have kc1 := F1.2.1; have kf1 := F1.2.2; have kz1 := F1.size; (try simp [Nat.add_one_le_iff] at kz1)) | (go_at_call 10; (with_reducible refine (of_yes _ _ _ _ (hL.ext (by (repeat (first | with_reducible exact Ext.refl _ | with_reducible assumption | exact Ext.mk (by with_reducible assumption) | with_reducible refine Ext.alloc ?_ _ | with_reducible refine Ext.drewN ?_ _ | with_reducible refine Ext.drew ?_ | with_reducible refine Ext.setCell ?_ (by simp; try omega) _ | (with_reducible refine Ext.trans ?_ (by with_reducible assumption)))))) HO.out).mono ?_); rintro e w2 ⟨rfl, E2⟩; have hc2 := E2.2.1; have hf2 := E2.2.2; have hz2 := E2.size; (try simp [Nat.add_one_le_iff] at hz2); have F2 : Ext (w.alloc (.cells #[.int .i64 y, .int .i64 m, .int .i64 d] 26)) w2 := (by (repeat (first | with_reducible exact Ext.refl _ | with_reducible assumption | exact Ext.mk (by with_reducible assumption) | with_reducible refine Ext.alloc ?_ _ | with_reducible refine Ext.drewN ?_ _ | with_reducible refine Ext.drew ?_ | with_reducible refine Ext.setCell ?_ (by simp; try omega) _ | (with_reducible refine Ext.trans ?_ (by with_reducible assumption))))); have kc2 := F2.2.1; have kf2 := F2.2.2; have kz2 := F2.size; (try simp [Nat.add_one_le_iff] at kz2)) | (go_at_call 13; (with_reducible refine (at_num _ _ _ _ HO.out).mono ?_); rintro e w3 ⟨rfl, E3⟩; have hc3 := E3.2.1; have hf3 := E3.2.2; have hz3 := E3.size; (try simp [Nat.add_one_le_iff] at hz3); have F3 : Ext (w.alloc (.cells #[.int .i64 y, .int .i64 m, .int .i64 d] 26)) w3 := (by (repeat (first | with_reducible exact Ext.refl _ | with_reducible assumption | exact Ext.mk (by with_reducible assumption) | with_reducible refine Ext.alloc ?_ _ | with_reducible refine Ext.drewN ?_ _ | with_reducible refine Ext.drew ?_ | with_reducible refine Ext.setCell ?_ (by simp; try omega) _ | (with_reducible refine Ext.trans ?_ (by with_reducible assumption))))); have kc3 := F3.2.1; have kf3 := F3.2.2; have kz3 := F3.size; (try simp [Nat.add_one_le_iff] at kz3)))
    go_wp2_with (first | (go_at_call 13; (with_reducible refine (at_yes n _ hday.out).mono ?_); rintro e w4 ⟨rfl, E4⟩; have hc4 := E4.2.1; have hf4 := E4.2.2; have hz4 := E4.size; (try simp [Nat.add_one_le_iff] at hz4); have F4 : Ext (w.alloc (.cells #[.int .i64 y, .int .i64 m, .int .i64 d] 26)) w4 := (by (repeat (first | with_reducible exact Ext.refl _ | with_reducible assumption | exact Ext.mk (by with_reducible assumption) | with_reducible refine Ext.alloc ?_ _ | with_reducible refine Ext.drewN ?_ _ | with_reducible refine Ext.drew ?_ | with_reducible refine Ext.setCell ?_ (by simp; try omega) _ | (with_reducible refine Ext.trans ?_ (by with_reducible assumption))))); have kc4 := F4.2.1; have kf4 := F4.2.2; have kz4 := F4.size; (try simp [Nat.add_one_le_iff] at kz4)) | (go_at_call 10; (with_reducible refine (of_dat n _ (hL.ext (by (repeat (first | with_reducible exact Ext.refl _ | with_reducible assumption | exact Ext.mk (by with_reducible assumption) | with_reducible refine Ext.alloc ?_ _ | with_reducible refine Ext.drewN ?_ _ | with_reducible refine Ext.drew ?_ | with_reducible refine Ext.setCell ?_ (by simp; try omega) _ | (with_reducible refine Ext.trans ?_ (by with_reducible assumption)))))) hday.out).mono ?_); rintro e w5 ⟨rfl, E5⟩; have hc5 := E5.2.1; have hf5 := E5.2.2; have hz5 := E5.size; (try simp [Nat.add_one_le_iff] at hz5); have F5 : Ext (w.alloc (.cells #[.int .i64 y, .int .i64 m, .int .i64 d] 26)) w5 := (by (repeat (first | with_reducible exact Ext.refl _ | with_reducible assumption | exact Ext.mk (by with_reducible assumption) | with_reducible refine Ext.alloc ?_ _ | with_reducible refine Ext.drewN ?_ _ | with_reducible refine Ext.drew ?_ | with_reducible refine Ext.setCell ?_ (by simp; try omega) _ | (with_reducible refine Ext.trans ?_ (by with_reducible assumption))))); have kc5 := F5.2.1; have kf5 := F5.2.2; have kz5 := F5.size; (try simp [Nat.add_one_le_iff] at kz5)) | (go_at_call 19; (with_reducible refine (check_dat n _ (hL.ext (by (repeat (first | with_reducible exact Ext.refl _ | with_reducible assumption | exact Ext.mk (by with_reducible assumption) | with_reducible refine Ext.alloc ?_ _ | with_reducible refine Ext.drewN ?_ _ | with_reducible refine Ext.drew ?_ | with_reducible refine Ext.setCell ?_ (by simp; try omega) _ | (with_reducible refine Ext.trans ?_ (by with_reducible assumption)))))) hday.out).mono ?_); rintro e w6 ⟨rfl, E6⟩; have hc6 := E6.2.1; have hf6 := E6.2.2; have hz6 := E6.size; (try simp [Nat.add_one_le_iff] at hz6); have F6 : Ext (w.alloc (.cells #[.int .i64 y, .int .i64 m, .int .i64 d] 26)) w6 := (by (repeat (first | with_reducible exact Ext.refl _ | with_reducible assumption | exact Ext.mk (by with_reducible assumption) | with_reducible refine Ext.alloc ?_ _ | with_reducible refine Ext.drewN ?_ _ | with_reducible refine Ext.drew ?_ | with_reducible refine Ext.setCell ?_ (by simp; try omega) _ | (with_reducible refine Ext.trans ?_ (by with_reducible assumption))))); have kc6 := F6.2.1; have kf6 := F6.2.2; have kz6 := F6.size; (try simp [Nat.add_one_le_iff] at kz6)))
    go_ret
    refine ⟨rfl, ?_⟩
    (repeat (first | with_reducible exact Ext.refl _ | with_reducible assumption | exact Ext.mk (by with_reducible assumption) | with_reducible refine Ext.alloc ?_ _ | with_reducible refine Ext.drewN ?_ _ | with_reducible refine Ext.drew ?_ | with_reducible refine Ext.setCell ?_ (by simp; try omega) _ | (with_reducible refine Ext.trans ?_ (by with_reducible assumption))))

/-- what the row's condition gives: the table of the months' lengths -/
def LaidOf (w : World) : Prop := DaysLaid w
theorem gLong : Tryd.prog.globalNamed "curfew/days.long" = some 0 := by kernel_rfl
theorem laidOf_met {W : World} (h : laidMet Tryd.prog [("curfew/days.long", Lib.tabData .i64 longTab)] W) : LaidOf W := by
  have t := Lib.tabIs_of_head gLong (t := 52) (by kernel_rfl) Tryd.underlying52 Tryd.underlying3 (by kernel_rfl) (by kernel_rfl) h
  have hc : ∀ i, i < 13 → W.cell? ⟨0, i, none⟩ = some (.int .i64 (longTab.getD i 0)) := fun i hi => t.cell gLong i hi
  refine ⟨?_, hc⟩
  have h0 := hc 0 (by omega)
  rcases Nat.lt_or_ge 0 W.heap.size with k | k
  · exact k
  · simp [World.cell?, Array.getElem?_eq_none k] at h0

end Go.Proofs.YtkhmkenankdakaaDoor
