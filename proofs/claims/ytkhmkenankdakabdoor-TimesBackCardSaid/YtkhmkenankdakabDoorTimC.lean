/- Walks of package times and its reference: later times, units, clocks. -/
import Derived.Test.YtkhmkenankdakabDoorTimB
namespace Go.Proofs.YtkhmkenankdakabDoor
open Go Go.RowKit
set_option linter.unusedSimpArgs false
set_option linter.unusedVariables false

set_option maxHeartbeats 1000000 in
theorem refCv_right (y m d a b c : Int) (w : World) : Calls Tryd.prog 22 #[.agg #[.int .i64 y, .int .i64 m, .int .i64 d, .int .i64 a, .int .i64 b, .int .i64 c]] w fun e w' => e = .returned (.bool (okc y m d a b c)) ∧ Ext w w' := by
  cases h1 : Cal.okd y m d
  · have hd : Hid (okc y m d a b c = false) := by show _ = _; simp [okc, h1]
    have H1 := Lib.hid h1
    clear h1
    go_enter Tryd.func22, Tryd.ntmps22
    go_wp2_with (first | (go_at_call 42; (with_reducible refine (right_no _ _ _ _ H1.out).mono ?_); rintro e w1 ⟨rfl, E1⟩; have hc1 := E1.2.1; have hf1 := E1.2.2; have hz1 := E1.size; have ht1 := E1.sizes; (try simp [Nat.add_one_le_iff] at hz1); (try have hy1 := Nat.le_of_lt hz1); have F1 : Ext (w.alloc (.cells #[.int .i64 y, .int .i64 m, .int .i64 d, .int .i64 a, .int .i64 b, .int .i64 c] 37)) w1 := (by (repeat (first | with_reducible exact Ext.refl _ | with_reducible assumption | exact Ext.mk (by with_reducible assumption) | with_reducible refine Ext.alloc ?_ _ | with_reducible refine Ext.drewN ?_ _ | with_reducible refine Ext.drew ?_ | with_reducible refine Ext.setCell ?_ (by first | (simp; done) | assumption | (simp; omega)) _ | (with_reducible refine Ext.trans ?_ (by with_reducible assumption))))); have kc1 := F1.2.1; have kf1 := F1.2.2; have kz1 := F1.size; have kt1 := F1.sizes; (try simp [Nat.add_one_le_iff] at kz1); (try have ky1 := Nat.le_of_lt kz1)))
    go_ret
    refine ⟨ret_bool hd.out.symm, ?_⟩
    (repeat (first | with_reducible exact Ext.refl _ | with_reducible assumption | exact Ext.mk (by with_reducible assumption) | with_reducible refine Ext.alloc ?_ _ | with_reducible refine Ext.drewN ?_ _ | with_reducible refine Ext.drew ?_ | with_reducible refine Ext.setCell ?_ (by first | (simp; done) | assumption | (simp; omega)) _ | (with_reducible refine Ext.trans ?_ (by with_reducible assumption))))
  · have H1 := Lib.hid h1
    by_cases h2 : 0 ≤ a ∧ a < 24 ∧ 0 ≤ b ∧ b < 60 ∧ 0 ≤ c ∧ c < 60
    · have hd : Hid (okc y m d a b c = true) := by show _ = _; simp only [okc, h1, Bool.true_and]; exact hmsB_iff.mpr h2
      obtain ⟨a1, a2, a3, a4, a5, a6⟩ := h2
      clear h1
      go_enter Tryd.func22, Tryd.ntmps22
      go_wp2_with (first | (go_at_call 42; (with_reducible refine (right_yes _ _ _ _ H1.out).mono ?_); rintro e w1 ⟨rfl, E1⟩; have hc1 := E1.2.1; have hf1 := E1.2.2; have hz1 := E1.size; have ht1 := E1.sizes; (try simp [Nat.add_one_le_iff] at hz1); (try have hy1 := Nat.le_of_lt hz1); have F1 : Ext (w.alloc (.cells #[.int .i64 y, .int .i64 m, .int .i64 d, .int .i64 a, .int .i64 b, .int .i64 c] 37)) w1 := (by (repeat (first | with_reducible exact Ext.refl _ | with_reducible assumption | exact Ext.mk (by with_reducible assumption) | with_reducible refine Ext.alloc ?_ _ | with_reducible refine Ext.drewN ?_ _ | with_reducible refine Ext.drew ?_ | with_reducible refine Ext.setCell ?_ (by first | (simp; done) | assumption | (simp; omega)) _ | (with_reducible refine Ext.trans ?_ (by with_reducible assumption))))); have kc1 := F1.2.1; have kf1 := F1.2.2; have kz1 := F1.size; have kt1 := F1.sizes; (try simp [Nat.add_one_le_iff] at kz1); (try have ky1 := Nat.le_of_lt kz1)))
      all_goals go_ret
      all_goals refine ⟨ret_bool (by first | (rw [hd.out]; done) | (rw [hd.out]; simp <;> omega)), ?_⟩
      all_goals (repeat (first | with_reducible exact Ext.refl _ | with_reducible assumption | exact Ext.mk (by with_reducible assumption) | with_reducible refine Ext.alloc ?_ _ | with_reducible refine Ext.drewN ?_ _ | with_reducible refine Ext.drew ?_ | with_reducible refine Ext.setCell ?_ (by first | (simp; done) | assumption | (simp; omega)) _ | (with_reducible refine Ext.trans ?_ (by with_reducible assumption))))
    · have hd : Hid (okc y m d a b c = false) := by show _ = _; simp only [okc, h1, Bool.true_and]; exact hmsB_no h2
      clear h1
      go_enter Tryd.func22, Tryd.ntmps22
      go_wp2_with (first | (go_at_call 42; (with_reducible refine (right_yes _ _ _ _ H1.out).mono ?_); rintro e w1 ⟨rfl, E1⟩; have hc1 := E1.2.1; have hf1 := E1.2.2; have hz1 := E1.size; have ht1 := E1.sizes; (try simp [Nat.add_one_le_iff] at hz1); (try have hy1 := Nat.le_of_lt hz1); have F1 : Ext (w.alloc (.cells #[.int .i64 y, .int .i64 m, .int .i64 d, .int .i64 a, .int .i64 b, .int .i64 c] 37)) w1 := (by (repeat (first | with_reducible exact Ext.refl _ | with_reducible assumption | exact Ext.mk (by with_reducible assumption) | with_reducible refine Ext.alloc ?_ _ | with_reducible refine Ext.drewN ?_ _ | with_reducible refine Ext.drew ?_ | with_reducible refine Ext.setCell ?_ (by first | (simp; done) | assumption | (simp; omega)) _ | (with_reducible refine Ext.trans ?_ (by with_reducible assumption))))); have kc1 := F1.2.1; have kf1 := F1.2.2; have kz1 := F1.size; have kt1 := F1.sizes; (try simp [Nat.add_one_le_iff] at kz1); (try have ky1 := Nat.le_of_lt kz1)))
      all_goals go_ret
      all_goals refine ⟨ret_bool (by first | (rw [hd.out]; done) | (rw [hd.out]; simp <;> omega)), ?_⟩
      all_goals (repeat (first | with_reducible exact Ext.refl _ | with_reducible assumption | exact Ext.mk (by with_reducible assumption) | with_reducible refine Ext.alloc ?_ _ | with_reducible refine Ext.drewN ?_ _ | with_reducible refine Ext.drew ?_ | with_reducible refine Ext.setCell ?_ (by first | (simp; done) | assumption | (simp; omega)) _ | (with_reducible refine Ext.trans ?_ (by with_reducible assumption))))

set_option maxHeartbeats 1000000 in
theorem refCv_of (y m d a b c : Int) (w : World) (h : okc y m d a b c = true) : Calls Tryd.prog 23 #[.agg #[.int .i64 y, .int .i64 m, .int .i64 d, .int .i64 a, .int .i64 b, .int .i64 c]] w fun e w' => e = .returned (.int .i64 (tim y m d a b c)) ∧ Ext w w' := by
  obtain ⟨h1, h2⟩ := okc_true h
  obtain ⟨b1, b2⟩ := Cal.num_bd h1
  obtain ⟨a1, a2, a3, a4, a5, a6⟩ := hmsB_iff.mp h2
  have H1 := Lib.hid h1
  clear h h1 h2
  have hd : Hid (60 * (60 * (24 * Cal.num y m d + a) + b) + c = tim y m d a b c) := by show _ = _; unfold tim; omega
  go_enter Tryd.func23, Tryd.ntmps23
  go_wp2
  refine wp_region_ext (by kernel_rfl) (by kernel_rfl) ?_
  repeat (go_big_quiet_step ((go_at_call 43; exact Calls.ext_of (refOf_any _ _ _ _ H1.out))))
  refine wpQuiet_nil ?_
  rintro w1 E1
  have hc1 := E1.2.1
  have hz1 := E1.size
  simp [Nat.add_one_le_iff] at hz1
  go_wp2
  go_ret
  refine ⟨ret_int hd.out, ?_⟩
  (repeat (first | with_reducible exact Ext.refl _ | with_reducible assumption | exact Ext.mk (by with_reducible assumption) | with_reducible refine Ext.alloc ?_ _ | with_reducible refine Ext.drewN ?_ _ | with_reducible refine Ext.drew ?_ | with_reducible refine Ext.setCell ?_ (by first | (simp; done) | assumption | (simp; omega)) _ | (with_reducible refine Ext.trans ?_ (by with_reducible assumption))))

/-- so much later -/
def addT (t n : Int) : Bool := timeB t && timeB (t + n)

theorem addT_true {t n : Int} (h : addT t n = true) : timeB t = true ∧ timeB (t + n) = true := by simpa [addT] using h

set_option maxHeartbeats 1000000 in
theorem tmAdd_yes (t n : Int) (w : World) (h : addT t n = true) : Calls Tryd.prog 11 #[.int .i64 t, .int .i64 n] w fun e w' => e = .returned (.tuple #[.int .i64 (t + n), .int .i64 0]) ∧ w = w' := by
  obtain ⟨h1, h2⟩ := addT_true h
  obtain ⟨t1, t2⟩ := timeB_true h1
  obtain ⟨t3, t4⟩ := timeB_true h2
  have H1 := Lib.hid h1
  clear h h1 h2
  have d1 : decide (n < -t) = false := df (by omega)
  have d2 : decide (253402300799 - t < n) = false := df (by omega)
  go_enter Tryd.func11, Tryd.ntmps11
  go_wp2_with (first | (go_at_call 12; (with_reducible refine (may_yes _ _ H1.out).mono ?_); rintro e w1 ⟨rfl, rfl⟩))
  go_ret2
  exact ⟨rfl, rfl⟩

set_option maxHeartbeats 1000000 in
theorem tmAdd_no (t n : Int) (w : World) (h : addT t n = false) (hn : -9223372036854775808 ≤ n ∧ n ≤ 9223372036854775807) : Calls Tryd.prog 11 #[.int .i64 t, .int .i64 n] w fun e w' => e = .returned (.tuple #[.int .i64 0, .int .i64 2]) ∧ w = w' := by
  obtain ⟨n1, n2⟩ := hn
  cases h1 : timeB t
  · have H1 := Lib.hid h1
    clear h h1
    go_enter Tryd.func11, Tryd.ntmps11
    go_wp2_with (first | (go_at_call 12; (with_reducible refine (may_no _ _ H1.out).mono ?_); rintro e w1 ⟨rfl, rfl⟩))
    go_ret2
    exact ⟨rfl, rfl⟩
  · have h2 : timeB (t + n) = false := by simpa [addT, h1] using h
    obtain ⟨t1, t2⟩ := timeB_true h1
    have t3 := timeB_false h2
    have H1 := Lib.hid h1
    clear h h1 h2
    by_cases g : n < -t
    · have d1 := dt g
      clear t3
      go_enter Tryd.func11, Tryd.ntmps11
      go_wp2_with (first | (go_at_call 12; (with_reducible refine (may_yes _ _ H1.out).mono ?_); rintro e w1 ⟨rfl, rfl⟩))
      go_ret2
      exact ⟨rfl, rfl⟩
    · have d1 := df g
      have d2 : decide (253402300799 - t < n) = true := dt (by omega)
      clear t3
      go_enter Tryd.func11, Tryd.ntmps11
      go_wp2_with (first | (go_at_call 12; (with_reducible refine (may_yes _ _ H1.out).mono ?_); rintro e w1 ⟨rfl, rfl⟩))
      go_ret2
      exact ⟨rfl, rfl⟩

set_option maxHeartbeats 1000000 in
theorem refAdd_yes (t n : Int) (w : World) (h : addT t n = true) : Calls Tryd.prog 24 #[.int .i64 t, .int .i64 n] w fun e w' => e = .returned (.tuple #[.int .i64 (t + n), .bool true]) ∧ w = w' := by
  obtain ⟨h1, h2⟩ := addT_true h
  obtain ⟨t1, t2⟩ := timeB_true h1
  obtain ⟨t3, t4⟩ := timeB_true h2
  have H1 := Lib.hid h1
  have H2 := Lib.hid h2
  clear h h1 h2
  have d1 : decide (253402300799 < n) = false := df (by omega)
  have d2 : decide (n < -253402300799) = false := df (by omega)
  go_enter Tryd.func24, Tryd.ntmps24
  go_wp2_with (first | (go_at_call 15; (with_reducible refine (refTime_yes _ _ H1.out).mono ?_); rintro e w1 ⟨rfl, rfl⟩) | (go_at_call 15; (with_reducible refine (refTime_yes _ _ H2.out).mono ?_); rintro e w1 ⟨rfl, rfl⟩))
  go_ret2
  exact ⟨rfl, rfl⟩

set_option maxHeartbeats 1000000 in
theorem refAdd_no (t n : Int) (w : World) (h : addT t n = false) : Calls Tryd.prog 24 #[.int .i64 t, .int .i64 n] w fun e w' => e = .returned (.tuple #[.int .i64 0, .bool false]) ∧ w = w' := by
  cases h1 : timeB t
  · have H1 := Lib.hid h1
    clear h h1
    go_enter Tryd.func24, Tryd.ntmps24
    go_wp2_with (first | (go_at_call 15; (with_reducible refine (refTime_no _ _ H1.out).mono ?_); rintro e w1 ⟨rfl, rfl⟩))
    go_ret2
    exact ⟨rfl, rfl⟩
  · have h2 : timeB (t + n) = false := by simpa [addT, h1] using h
    obtain ⟨t1, t2⟩ := timeB_true h1
    have H1 := Lib.hid h1
    have H2 := Lib.hid h2
    clear h h1 h2
    by_cases g : 253402300799 < n
    · have d1 := dt g
      go_enter Tryd.func24, Tryd.ntmps24
      go_wp2_with (first | (go_at_call 15; (with_reducible refine (refTime_yes _ _ H1.out).mono ?_); rintro e w1 ⟨rfl, rfl⟩))
      go_ret2
      exact ⟨rfl, rfl⟩
    · have d1 := df g
      by_cases g2 : n < -253402300799
      · have d2 := dt g2
        go_enter Tryd.func24, Tryd.ntmps24
        go_wp2_with (first | (go_at_call 15; (with_reducible refine (refTime_yes _ _ H1.out).mono ?_); rintro e w1 ⟨rfl, rfl⟩))
        go_ret2
        exact ⟨rfl, rfl⟩
      · have d2 := df g2
        go_enter Tryd.func24, Tryd.ntmps24
        go_wp2_with (first | (go_at_call 15; (with_reducible refine (refTime_yes _ _ H1.out).mono ?_); rintro e w1 ⟨rfl, rfl⟩) | (go_at_call 15; (with_reducible refine (refTime_no _ _ H2.out).mono ?_); rintro e w1 ⟨rfl, rfl⟩))
        go_ret2
        exact ⟨rfl, rfl⟩

/-- what a clock is believed -/
def readT (l t : Int) : Int := if timeB t = true ∧ l ≤ t then t else l

set_option maxHeartbeats 1000000 in
theorem tmRead_any (l t : Int) (w : World) : Calls Tryd.prog 13 #[.int .i64 l, .int .i64 t] w fun e w' => e = .returned (.int .i64 (readT l t)) ∧ w = w' := by
  cases h1 : timeB t
  · have hd : Hid (readT l t = l) := by show _ = _; simp [readT, h1]
    have H1 := Lib.hid h1
    clear h1
    go_enter Tryd.func13, Tryd.ntmps13
    go_wp2_with (first | (go_at_call 12; (with_reducible refine (may_no _ _ H1.out).mono ?_); rintro e w1 ⟨rfl, rfl⟩))
    go_ret
    exact ⟨ret_int hd.out.symm, rfl⟩
  · by_cases g : l ≤ t
    · have hd : Hid (readT l t = t) := by show _ = _; simp [readT, h1, g]
      have d1 := dt g
      have H1 := Lib.hid h1
      clear h1
      go_enter Tryd.func13, Tryd.ntmps13
      go_wp2_with (first | (go_at_call 12; (with_reducible refine (may_yes _ _ H1.out).mono ?_); rintro e w1 ⟨rfl, rfl⟩))
      go_ret
      exact ⟨ret_int hd.out.symm, rfl⟩
    · have hd : Hid (readT l t = l) := by show _ = _; simp [readT, g]
      have d1 := df g
      have H1 := Lib.hid h1
      clear h1
      go_enter Tryd.func13, Tryd.ntmps13
      go_wp2_with (first | (go_at_call 12; (with_reducible refine (may_yes _ _ H1.out).mono ?_); rintro e w1 ⟨rfl, rfl⟩))
      go_ret
      exact ⟨ret_int hd.out.symm, rfl⟩

set_option maxHeartbeats 1000000 in
theorem refRead_any (l t : Int) (w : World) : Calls Tryd.prog 25 #[.int .i64 l, .int .i64 t] w fun e w' => e = .returned (.int .i64 (readT l t)) ∧ w = w' := by
  cases h1 : timeB t
  · have hd : Hid (readT l t = l) := by show _ = _; simp [readT, h1]
    have H1 := Lib.hid h1
    clear h1
    go_enter Tryd.func25, Tryd.ntmps25
    go_wp2_with (first | (go_at_call 15; (with_reducible refine (refTime_no _ _ H1.out).mono ?_); rintro e w1 ⟨rfl, rfl⟩))
    go_ret
    exact ⟨ret_int hd.out.symm, rfl⟩
  · by_cases g : l ≤ t
    · have hd : Hid (readT l t = t) := by show _ = _; simp [readT, h1, g]
      have d1 : decide (t < l) = false := df (by omega)
      have H1 := Lib.hid h1
      clear h1
      go_enter Tryd.func25, Tryd.ntmps25
      go_wp2_with (first | (go_at_call 15; (with_reducible refine (refTime_yes _ _ H1.out).mono ?_); rintro e w1 ⟨rfl, rfl⟩))
      go_ret
      exact ⟨ret_int hd.out.symm, rfl⟩
    · have hd : Hid (readT l t = l) := by show _ = _; simp [readT, g]
      have d1 : decide (t < l) = true := dt (by omega)
      have H1 := Lib.hid h1
      clear h1
      go_enter Tryd.func25, Tryd.ntmps25
      go_wp2_with (first | (go_at_call 15; (with_reducible refine (refTime_yes _ _ H1.out).mono ?_); rintro e w1 ⟨rfl, rfl⟩))
      go_ret
      exact ⟨ret_int hd.out.symm, rfl⟩

set_option maxHeartbeats 1000000 in
theorem tmFloor_yes (t u : Int) (w : World) (h : timeB t = true) (hu : 1 ≤ u) : Calls Tryd.prog 14 #[.int .i64 t, .int .i64 u] w fun e w' => e = .returned (.tuple #[.int .i64 (t - t % u), .int .i64 0]) ∧ w = w' := by
  obtain ⟨t1, t2⟩ := timeB_true h
  have H1 := Lib.hid h
  clear h
  have d1 : decide (u < 1) = false := df (by omega)
  have hne : u ≠ 0 := by omega
  have m1 : 0 ≤ t % u := Int.emod_nonneg t hne
  have m2 : t % u ≤ t := by
    have a := Int.emod_def t u
    have b := Int.mul_nonneg (show 0 ≤ u by omega) (Int.ediv_nonneg t1 (show 0 ≤ u by omega))
    omega
  go_enter Tryd.func14, Tryd.ntmps14
  go_wp2_with (first | (go_at_call 12; (with_reducible refine (may_yes _ _ H1.out).mono ?_); rintro e w1 ⟨rfl, rfl⟩))
  go_ret2
  exact ⟨rfl, rfl⟩

theorem tmFloor_no (t u : Int) (w : World) (h : timeB t = false ∨ u < 1) : Calls Tryd.prog 14 #[.int .i64 t, .int .i64 u] w fun e w' => e = .returned (.tuple #[.int .i64 0, .int .i64 2]) ∧ w = w' := by
  cases h1 : timeB t
  · have H1 := Lib.hid h1
    clear h h1
    go_enter Tryd.func14, Tryd.ntmps14
    go_wp2_with (first | (go_at_call 12; (with_reducible refine (may_no _ _ H1.out).mono ?_); rintro e w1 ⟨rfl, rfl⟩))
    go_ret2
    exact ⟨rfl, rfl⟩
  · have h2 : u < 1 := by simpa [h1] using h
    have H1 := Lib.hid h1
    clear h h1
    have d1 := dt h2
    go_enter Tryd.func14, Tryd.ntmps14
    go_wp2_with (first | (go_at_call 12; (with_reducible refine (may_yes _ _ H1.out).mono ?_); rintro e w1 ⟨rfl, rfl⟩))
    go_ret2
    exact ⟨rfl, rfl⟩
